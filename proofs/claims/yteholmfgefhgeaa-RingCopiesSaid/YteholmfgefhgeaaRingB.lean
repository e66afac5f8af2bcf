/- The package ring: Find. -/
import Derived.Test.YteholmfgefhgeaaRing
namespace Go.Proofs.Yteholmfgefhgeaa
open Go.RowKit Go.Sep

variable {w : World} {p lb most f n : Nat} {buf : List Int}

/-- The first of n places that holds x. -/
def firstOf (g : Nat → Int) (n : Nat) (x : Int) : Int := match (List.range n).find? (fun i => g i == x) with
  | some i => i
  | none => -1

theorem firstOf_some {g : Nat → Int} {n k : Nat} {x : Int} (hk : k < n) (he : g k = x) (hb : ∀ j, j < k → g j ≠ x) : firstOf g n x = k := by
  unfold firstOf
  have : (List.range n).find? (fun i => g i == x) = some k := by
    rw [List.find?_range_eq_some]
    simp [he, hk]
    exact hb
  rw [this]

theorem firstOf_none {g : Nat → Int} {n : Nat} {x : Int} (hb : ∀ j, j < n → g j ≠ x) : firstOf g n x = -1 := by
  unfold firstOf
  have : (List.range n).find? (fun i => g i == x) = none := by
    simp; exact hb
  rw [this]

def FindRel (n : Nat) (g : Nat → Int) (x : Int) (w : World) (i : Value) (wr : World) : Prop := ∃ k : Nat, k ≤ n ∧ i = .int .i64 k ∧ (∃ m, wr = w.drewN m) ∧ ∀ j, j < k → g j ≠ x

theorem Find_any (h : RR w p lb most f n buf) (x : Int) :
    Calls Try.prog 28 #[.pointer (some ⟨p, 0, none⟩), .int .i64 x] w (Quiet w (.int .i64 (firstOf (nth most f buf) n x))) := by
  have HL := len_any h
  go_enter Try.func28, Try.ntmps28
  go_wp2_with (go_at_call 27; refine HL.mono ?_; rintro e w' ⟨rfl, rfl⟩)
  go_loopw [8] (fun i wr => FindRel n (nth most f buf) x w i wr) (fun i _ => n - (intOf i).toNat)
  case atStart => exact ⟨0, by omega, rfl, ⟨0, rfl⟩, by omega⟩
  case round =>
    obtain ⟨k, hk, rfl, ⟨m, hm⟩, hno⟩ := hrel
    have h' : RR wr p lb most f n buf := by rw [hm]; exact h.drewN m
    have HN := Lib.hid hno
    have HW := Lib.hid hm
    clear hno HL hm h
    by_cases hlt : k < n
    · obtain ⟨q, hq⟩ : ∃ q, (f + k) % most = q := ⟨_, rfl⟩
      have HAt := fun m' => at_any (h'.drewN m') k q (by have := h'.h4; omega) hq
      obtain ⟨c0, c1, c2, cb, h1, h2, h3, h4, h5⟩ := h'
      have hql : q < most := by rw [← hq]; exact Nat.mod_lt _ h1
      obtain ⟨v, hv⟩ : ∃ v, buf.getD q 0 = v := ⟨_, rfl⟩
      have hb := cb q hql
      rw [hv] at hb
      have HV : Hid (nth most f buf k = v) := by unfold nth; rw [hq]; exact hv
      clear cb hq hv
      have hql' : (q : Int) < (most : Int) := by omega
      have hq0 : (0 : Int) ≤ (q : Int) := by omega
      by_cases hx : v = x
      · have hx' : (v == x) = true := by simp [hx]
        have HX := Lib.hid hx
        clear hx
        go_wp2
        go_quiet ((go_at_call 24; refine Calls.quiet_of (HAt _)))
        go_wp2
        go_ret
        exact ⟨by rw [firstOf_some hlt (HV.out.trans HX.out) HN.out]; rfl, _, by rw [HW.out, World.drewN_drewN]⟩
      · have hx' : (v == x) = false := by simp [hx]
        have HX := Lib.hid hx
        clear hx
        go_wp2
        go_quiet ((go_at_call 24; refine Calls.quiet_of (HAt _)))
        go_wp2
        go_roundw
        case rel =>
          refine ⟨k + 1, by omega, by go_num, ⟨_, by rw [HW.out, World.drewN_drewN]⟩, ?_⟩
          intro j hj
          rcases Nat.lt_or_ge j k with hj' | hj'
          · exact HN.out j hj'
          · obtain rfl : j = k := by omega
            rw [HV.out]
            exact HX.out
        case measure => simp [intOf]; omega
    · obtain rfl : k = n := by omega
      clear h'
      go_wp2
      go_ret
      exact ⟨by rw [firstOf_none HN.out]; rfl, _, HW.out⟩

end Go.Proofs.Yteholmfgefhgeaa
