/- The document's queue: what changes it. -/
import Derived.Test.YteholmfgefhgeaaRefQ
namespace Go.Proofs.Yteholmfgefhgeaa
open Go.RowKit Go.Sep

theorem RPush_room (p most : Nat) (q : List Int) (x : Int) (hq : q.length < most) :
    Tri Try.prog 13 #[.pointer (some ⟨p, 0, none⟩), .int .i64 x] [refHP p most q] (fun e L => e = .returned (.int .i64 0) ∧ L = [refHP p most (q ++ [x])]) := by
  refine ref_tri fun w S ao cap hR hS fp sp => ?_
  have f1 := fp 1
  have hp := hS.old p sp
  obtain ⟨i0, hi, hz0, hz1, hz2⟩ := info_parts infoInt
  obtain ⟨c0, c1, cb, h1, h2, h3, h4⟩ := hR
  obtain ⟨n, hn⟩ : ∃ n, q.length = n := ⟨_, rfl⟩
  have HN := Lib.hid hn
  rw [hn] at c1 h1 h3 hq
  have hlt : ¬ ((most : Int) ≤ (n : Int)) := by omega
  clear cb hn fp
  go_enter Try.func13, Try.ntmps13
  go_wp2
  go_quiet (fail)
  obtain ⟨W, hW⟩ : ∃ W, W = w.drewN nq := ⟨_, rfl⟩
  have HF : Fr S S w W := by rw [hW]; exact (Fr.refl S w).drewN nq
  have HS : Sat (refParts p most ao cap q) W S := by rw [hW]; exact hS.drewN nq
  have d1 : W.cell? ⟨p, 1, none⟩ = some (.slice ao n cap) := by rw [hW]; exact c1
  have hp' : p < W.heap.size := by rw [hW]; exact hp
  have f1' : W.frozen? ⟨p, 1, none⟩ = false := by rw [hW]; exact f1
  rw [← hW]
  clear hW c0 c1 f1 hS hp
  have HA := sl_row (xs := []) (spare := []) (n := 0) (cap := 0) (size := 1) (HS.alloc (.cells #[] 3)) (Nat.le_refl _) (Nat.zero_le _) rfl rfl
  have HSrc : Src Try.prog 1 32 (.slice ao q.length cap) q.length (q.map (Value.int .i64)) (W.alloc (.cells #[] 3)) := sl_src (HA.tail.swap) Try.underlying32 (one_ints _ _)
  rw [HN.out] at HSrc
  have HFA := HF.alloc (.cells #[] 3)
  have HX := Lib.hid (And.intro HS HF)
  clear HS HF
  go_wp2_with first
    | (at_builtin; refine wpList_append_sep rfl (.tmp 16) (.tmp 20) 32 32 rfl i0 (.int .i64 0) Try.underlying32 hi hz0 hz1 hz2 rfl (by simp) rfl HA _ rfl _ _ HSrc (by simp [maxLen]; omega) (by omega) ?_
       intro ao1 cap1 w1 S1 HS1 HF1
       have HG := HFA.trans HF1
       simp only [Nat.zero_add, List.nil_append] at HS1 ⊢
       have HB := HS1.alloc (.cells #[.int .i64 x] 3)
       have HSrc2 := src_one (P := Try.prog) HB 32 Try.underlying32 rfl
       have HGB := HG.alloc (.cells #[.int .i64 x] 3)
       clear HA HSrc HFA HF1)
    | (at_builtin; refine wpList_append_sep rfl (.tmp 21) (.tmp 23) 32 32 rfl i0 (.int .i64 0) Try.underlying32 hi hz0 hz1 hz2 rfl (one_ints _ _) rfl HB.swap _ rfl _ _ HSrc2 (by simp [maxLen]; omega) (by omega) ?_
       intro ao2 cap2 w2 S2 HS2 HF2
       have HG2 := HGB.trans HF2
       have HS3 : Sat (refParts p most ao cap q ++ [slHP ao2 (n + 1) cap2 3 1 (q.map (Value.int .i64) ++ [.int .i64 x])]) w2 S2 := (HS2.swap.tail).perm (List.perm_append_comm (l₁ := [_]))
       have f2 := free_of_block (o := 1) (HS3.block (List.mem_cons_self ..))
       have k2 := (cell_of_block (o := 1) (HS3.block (List.mem_cons_self ..))).trans (by rfl)
       clear HS2 HF2 HSrc2 HB HS1)
  go_ret
  obtain rfl := HN.out
  have H4 := HS3.set 1 (.slice ao2 (q.length + 1) cap2)
  have H5 : Sat (refParts p most ao2 cap2 (q ++ [x])) (w2.setCell ⟨p, 1, none⟩ (.slice ao2 (q.length + 1) cap2)) S2 := by
    have := H4.swap.tail
    simpa [refParts] using this
  exact ⟨_, S2, ⟨rfl, rfl⟩, sat_ref (l := []) (by simpa using H5) (by simp; omega) h2, HG2.setCell HS3.owns⟩

end Go.Proofs.Yteholmfgefhgeaa
