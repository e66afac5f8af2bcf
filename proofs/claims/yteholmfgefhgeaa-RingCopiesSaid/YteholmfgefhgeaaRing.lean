/- The package ring: what its quiet methods answer. -/
import Derived.Test.YteholmfgefhgeaaRows
import Derived.Test.YteholmfgefhgeaaSep
import Derived.WalkKit
import Derived.Lib.Hide
import Derived.Deep.QuietTactic
import Derived.BigQuiet
namespace Go.Proofs.Yteholmfgefhgeaa
open Go.RowKit Go.Sep

structure RR (w : World) (p lb most f n : Nat) (buf : List Int) : Prop where
  c0 : w.cell? ⟨p, 0, none⟩ = some (.slice (some ⟨lb, 0, none⟩) most most)
  c1 : w.cell? ⟨p, 1, none⟩ = some (.int .i64 f)
  c2 : w.cell? ⟨p, 2, none⟩ = some (.int .i64 n)
  cb : ∀ j, j < most → w.cell? ⟨lb, j, none⟩ = some (.int .i64 (buf.getD j 0))
  h1 : 1 ≤ most
  h2 : most ≤ 4096
  h3 : f < most
  h4 : n ≤ most
  h5 : buf.length = most

theorem RR.drewN {w : World} {p lb most f n : Nat} {buf : List Int} (h : RR w p lb most f n buf) (k : Nat) : RR (w.drewN k) p lb most f n buf := ⟨h.c0, h.c1, h.c2, h.cb, h.h1, h.h2, h.h3, h.h4, h.h5⟩

def Quiet (w : World) (v : Value) (e : Ending) (w' : World) : Prop := e = .returned v ∧ ∃ n, w' = w.drewN n

variable {w : World} {p lb most f n : Nat} {buf : List Int}

theorem made_any (h : RR w p lb most f n buf) :
    Calls Try.prog 21 #[.pointer (some ⟨p, 0, none⟩)] w fun e w' => e = .returned (.bool true) ∧ w = w' := by
  obtain ⟨c0, c1, c2, cb, h1, h2, h3, h4, h5⟩ := h
  clear cb h5
  go_enter Try.func21, Try.ntmps21
  go_wp2
  go_ret
  exact ⟨by simp; omega, rfl⟩

theorem at_any (h : RR w p lb most f n buf) (i k : Nat) (hi : i ≤ most) (hk : (f + i) % most = k) :
    Calls Try.prog 24 #[.pointer (some ⟨p, 0, none⟩), .int .i64 i] w (Quiet w (.int .i64 k)) := by
  subst hk
  obtain ⟨c0, c1, c2, cb, h1, h2, h3, h4, h5⟩ := h
  clear cb h5
  go_enter Try.func24, Try.ntmps24
  go_wp2
  go_quiet (fail)
  go_wp2
  go_ret
  exact ⟨by simp, _, rfl⟩

theorem len_any (h : RR w p lb most f n buf) :
    Calls Try.prog 27 #[.pointer (some ⟨p, 0, none⟩)] w fun e w' => e = .returned (.int .i64 n) ∧ w = w' := by
  have HM := made_any h
  obtain ⟨c0, c1, c2, cb, h1, h2, h3, h4, h5⟩ := h
  clear cb h5
  go_enter Try.func27, Try.ntmps27
  go_wp2_with (go_at_call 21; refine HM.mono ?_; rintro e w' ⟨rfl, rfl⟩)
  go_ret
  exact ⟨rfl, rfl⟩

theorem room_any (h : RR w p lb most f n buf) :
    Calls Try.prog 23 #[.pointer (some ⟨p, 0, none⟩)] w (Quiet w (.int .i64 (if n = most then 3 else 0))) := by
  have HM := made_any h
  obtain ⟨c0, c1, c2, cb, h1, h2, h3, h4, h5⟩ := h
  clear cb h5
  by_cases hn : n = most
  · subst hn
    go_enter Try.func23, Try.ntmps23
    go_wp2_with (go_at_call 21; refine HM.mono ?_; rintro e w' ⟨rfl, rfl⟩)
    go_quiet (fail)
    go_wp2
    go_ret
    exact ⟨by simp, _, rfl⟩
  · have hn' : ((n : Int) == (most : Int)) = false := by simp; omega
    go_enter Try.func23, Try.ntmps23
    go_wp2_with (go_at_call 21; refine HM.mono ?_; rintro e w' ⟨rfl, rfl⟩)
    go_quiet (fail)
    go_wp2
    go_ret
    exact ⟨by simp [hn], _, rfl⟩

/-- The i-th, where it stands. -/
def nth (most f : Nat) (buf : List Int) (i : Nat) : Int := buf.getD ((f + i) % most) 0

theorem At_in (h : RR w p lb most f n buf) (i : Nat) (hi : i < n) :
    Calls Try.prog 25 #[.pointer (some ⟨p, 0, none⟩), .int .i64 i] w (Quiet w (.tuple #[.int .i64 (nth most f buf i), .bool true])) := by
  have HM := made_any h
  obtain ⟨k, hk⟩ : ∃ k, (f + i) % most = k := ⟨_, rfl⟩
  have HA := fun k' => at_any (h.drewN k') i k (by have := h.h4; omega) hk
  obtain ⟨c0, c1, c2, cb, h1, h2, h3, h4, h5⟩ := h
  have hlt : k < most := by rw [← hk]; exact Nat.mod_lt _ h1
  have hb := cb k hlt
  obtain ⟨v, hv⟩ : ∃ v, buf.getD k 0 = v := ⟨_, rfl⟩
  rw [hv] at hb
  have HV : Hid (nth most f buf i = v) := by unfold nth; rw [hk]; exact hv
  clear cb h5 hv hk
  have hlt' : (k : Int) < (most : Int) := by omega
  have hi' : (i : Int) < (n : Int) := by omega
  have hge' : (0 : Int) ≤ (k : Int) := by omega
  go_enter Try.func25, Try.ntmps25
  go_wp2_with (go_at_call 21; refine HM.mono ?_; rintro e w' ⟨rfl, rfl⟩)
  go_quiet ((go_at_call 24; refine Calls.quiet_of (HA _)))
  go_wp2
  go_ret2
  exact ⟨by rw [HV.out]; rfl, _, rfl⟩

theorem At_out (h : RR w p lb most f n buf) (i : Int) (hi : i < 0 ∨ (n : Int) ≤ i) :
    Calls Try.prog 25 #[.pointer (some ⟨p, 0, none⟩), .int .i64 i] w (Quiet w (.tuple #[.int .i64 0, .bool false])) := by
  have HM := made_any h
  obtain ⟨c0, c1, c2, cb, h1, h2, h3, h4, h5⟩ := h
  clear cb h5
  by_cases h0 : i < 0
  · go_enter Try.func25, Try.ntmps25
    go_wp2_with (go_at_call 21; refine HM.mono ?_; rintro e w' ⟨rfl, rfl⟩)
    go_ret2
    exact ⟨rfl, 0, rfl⟩
  · have h0' : 0 ≤ i := by omega
    have hn : (n : Int) ≤ i := by omega
    go_enter Try.func25, Try.ntmps25
    go_wp2_with (go_at_call 21; refine HM.mono ?_; rintro e w' ⟨rfl, rfl⟩)
    go_ret2
    exact ⟨rfl, 0, rfl⟩

end Go.Proofs.Yteholmfgefhgeaa
