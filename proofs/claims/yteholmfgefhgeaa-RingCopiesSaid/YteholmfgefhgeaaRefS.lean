/- The document's queue: take. -/
import Derived.Test.YteholmfgefhgeaaRefR
namespace Go.Proofs.Yteholmfgefhgeaa
open Go.RowKit Go.Sep

set_option maxHeartbeats 1000000 in
theorem take_in (p most : Nat) (q : List Int) (i : Nat) (hi : i < q.length) :
    Tri Try.prog 26 #[.pointer (some ⟨p, 0, none⟩), .int .i64 i] [refHP p most q] (fun e L => e = .returned (.tuple #[.int .i64 (el q i), .bool true]) ∧ L = [refHP p most (q.eraseIdx i)]) := by
  refine ref_tri fun w S ao cap hR hS fp sp => ?_
  have HP := RAt_in hR i hi
  have f1 := fp 1
  have hp := hS.old p sp
  obtain ⟨g, rfl, hb⟩ := hR.cb i hi
  obtain ⟨i0, hi0, hz0, hz1, hz2⟩ := info_parts infoInt
  obtain ⟨c0, c1, -, h1, h2, h3, h4⟩ := hR
  obtain ⟨n, hn⟩ : ∃ n, q.length = n := ⟨_, rfl⟩
  have HN := Lib.hid hn
  rw [hn] at c1 h1 h3 hi
  have hi' : (i : Int) ≤ (n : Int) := by omega
  have hi2 : (i : Int) + 1 ≤ (n : Int) := by omega
  have hi0' : (0 : Int) ≤ (i : Int) := by omega
  clear hb hn fp
  go_enter Try.func26, Try.ntmps26
  go_wp2_with (go_at_call 31; refine HP.mono ?_; rintro e w' ⟨rfl, m, rfl⟩)
  obtain ⟨W, hW⟩ : ∃ W, W = w.drewN m := ⟨_, rfl⟩
  have HF : Fr S S w W := by rw [hW]; exact (Fr.refl S w).drewN m
  have HS : Sat (refParts p most (some ⟨g, 0, none⟩) cap q) W S := by rw [hW]; exact hS.drewN m
  have d1 : W.cell? ⟨p, 1, none⟩ = some (.slice (some ⟨g, 0, none⟩) n cap) := by rw [hW]; exact c1
  have hp' : p < W.heap.size := by rw [hW]; exact hp
  have f1' : W.frozen? ⟨p, 1, none⟩ = false := by rw [hW]; exact f1
  rw [← hW]
  clear hW c0 c1 f1 hS hp HP
  go_wp2_with fail
  have hcn : (n : Int) ≤ (cap : Int) := by omega
  have hic : (i : Int) ≤ (cap : Int) := by omega
  by_cases hcap : cap = i + 1
  · have hn2 : n = cap := by omega
    have HC := Lib.hid hcap
    have hcap' : i + 1 = cap := hcap.symm
    clear hcap
    subst hn2
    have hcs : (0 : Int) ≤ (i : Int) + 1 := by omega
    have hcc : (i : Int) + 1 ≤ (n : Int) := by omega
    have hw1 : IntKind.i64.wrap ((i : Int) + 1) = (i : Int) + 1 := IntWalk.i64_in _ (by omega)
    have ht1 : ((i : Int) + 1).toNat = n := by omega
    have HQ1 : Hid (((q.take i).map (Value.int .i64)).length = i) := by
      show ((q.take i).map (Value.int .i64)).length = i
      have := HN.out
      simp; omega
    have HA := (sl_row (xs := []) (spare := []) (n := 0) (cap := 0) (size := 1) (HS.alloc (.cells #[] 3)) (Nat.le_refl _) (Nat.zero_le _) rfl rfl).drew
    have HSrc : Src Try.prog 1 32 (.slice (some ⟨g, 0, none⟩) i n) i ((q.take i).map (Value.int .i64)) (W.alloc (.cells #[] 3)).drew := by
      refine Src.ofSlice _ Try.underlying32 ⟨g, 0, none⟩ i n _ (by rw [HQ1.out, Nat.mul_one]) (fun j u hu => ?_) (one_ints _ _)
      rw [addr_add]
      refine sl_cells HA.tail.swap j u ?_
      rw [List.map_take, List.getElem?_take] at hu
      split at hu
      · exact hu
      · cases hu
    have HFA := (HF.alloc (.cells #[] 3)).drew
    have HX := Lib.hid (And.intro HS HF)
    clear HS HF
    go_region_law (first
      | (refine step_append_sep rfl (.tmp 16) (.tmp 22) 32 32 rfl i0 (.int .i64 0) Try.underlying32 hi0 hz0 hz1 hz2 rfl (by simp) rfl HA _ rfl _ _ HSrc (by simp [maxLen]; omega) (by omega) ?_
         intro ao1 cap1 w1 S1 HS1 HF1
         have HG := HFA.trans HF1
         simp only [Nat.zero_add, List.nil_append] at HS1 ⊢
         have k1 := (cell_of_block (o := 1) (HS1.block (b := p) (List.mem_cons_of_mem _ (List.mem_cons_self ..)))).trans (by rfl)
         have f2 := free_of_block (o := 1) (HS1.block (b := p) (List.mem_cons_of_mem _ (List.mem_cons_self ..)))
         rw [HN.out] at k1
         clear HA HSrc HFA HF1)
      | (refine step_append_sep rfl (.tmp 23) (.tmp 30) 32 32 rfl i0 (.int .i64 0) Try.underlying32 hi0 hz0 hz1 hz2 rfl (one_ints _ _) rfl HS1 _ rfl 0 [] ?s1 (by simp [maxLen]; omega) (by omega) ?_
         case s1 =>
           exact Src.ofSlice _ Try.underlying32 _ _ _ _ rfl (fun j u hu => by simp at hu) (by simp)
         intro ao2 cap2 w2 S2 HS2 HF2
         have HG2 := HG.trans HF2
         have HS3 := HS2.swap
         have k3 := (cell_of_block (o := 1) (HS3.block (List.mem_cons_self ..))).trans (by rfl)
         have f3 := free_of_block (o := 1) (HS3.block (List.mem_cons_self ..))
         clear HS2 HF2 HS1 HG))
    all_goals
      go_wp2
      go_ret2
      have H4 := HS3.set 1 (.slice ao2 (i + 0) cap2)
      have H5 : Sat (refParts p most ao2 cap2 (q.eraseIdx i)) (w2.setCell ⟨p, 1, none⟩ (.slice ao2 (i + 0) cap2)) S2 := by
        have h := (H4.perm (List.perm_append_comm (l₁ := [_, _]) (l₂ := [_]))).tail
        have e1 : (q.eraseIdx i).length = i + 0 := by have := HN.out; rw [List.length_eraseIdx, if_pos (by omega)]; omega
        have e2 : (q.eraseIdx i).map (Value.int .i64) = (q.take i).map (Value.int .i64) ++ [] := by
          have := HN.out
          rw [List.eraseIdx_eq_take_drop_succ, List.drop_of_length_le (by omega), List.append_nil, List.append_nil]
        unfold refParts
        rw [e1, e2]
        exact h
      exact ⟨_, S2, ⟨rfl, rfl⟩, sat_ref (l := []) (by simpa using H5) (by have := HN.out; simp [List.length_eraseIdx]; split <;> omega) h2, HG2.setCell HS3.owns⟩
  · have HC := Lib.hid hcap
    have hcs : (0 : Int) ≤ (i : Int) + 1 := by omega
    have hnc : ¬ cap = i + 1 := hcap
    clear hcap
    have hcc : (i : Int) + 1 ≤ (cap : Int) := by omega
    have hw1 : IntKind.i64.wrap ((i : Int) + 1) = (i : Int) + 1 := IntWalk.i64_in _ (by omega)
    have ht1 : ((i : Int) + 1).toNat = i + 1 := by omega
    have HQ2 : Hid (((q.drop (i + 1)).map (Value.int .i64)).length = n - (i + 1)) := by
      show ((q.drop (i + 1)).map (Value.int .i64)).length = n - (i + 1)
      have := HN.out
      simp; omega
    have HQ1 : Hid (((q.take i).map (Value.int .i64)).length = i) := by
      show ((q.take i).map (Value.int .i64)).length = i
      have := HN.out
      simp; omega
    have HA := (sl_row (xs := []) (spare := []) (n := 0) (cap := 0) (size := 1) (HS.alloc (.cells #[] 3)) (Nat.le_refl _) (Nat.zero_le _) rfl rfl).drew
    have HSrc : Src Try.prog 1 32 (.slice (some ⟨g, 0, none⟩) i cap) i ((q.take i).map (Value.int .i64)) (W.alloc (.cells #[] 3)).drew := by
      refine Src.ofSlice _ Try.underlying32 ⟨g, 0, none⟩ i cap _ (by rw [HQ1.out, Nat.mul_one]) (fun j u hu => ?_) (one_ints _ _)
      rw [addr_add]
      refine sl_cells HA.tail.swap j u ?_
      rw [List.map_take, List.getElem?_take] at hu
      split at hu
      · exact hu
      · cases hu
    have HFA := (HF.alloc (.cells #[] 3)).drew
    have HX := Lib.hid (And.intro HS HF)
    clear HS HF
    go_region_law (first
      | (refine step_append_sep rfl (.tmp 16) (.tmp 22) 32 32 rfl i0 (.int .i64 0) Try.underlying32 hi0 hz0 hz1 hz2 rfl (by simp) rfl HA _ rfl _ _ HSrc (by simp [maxLen]; omega) (by omega) ?_
         intro ao1 cap1 w1 S1 HS1 HF1
         have HG := HFA.trans HF1
         simp only [Nat.zero_add, List.nil_append] at HS1 ⊢
         have k1 := (cell_of_block (o := 1) (HS1.block (b := p) (List.mem_cons_of_mem _ (List.mem_cons_self ..)))).trans (by rfl)
         have f2 := free_of_block (o := 1) (HS1.block (b := p) (List.mem_cons_of_mem _ (List.mem_cons_self ..)))
         rw [HN.out] at k1
         clear HA HSrc HFA HF1)
      | (refine step_append_sep rfl (.tmp 23) (.tmp 30) 32 32 rfl i0 (.int .i64 0) Try.underlying32 hi0 hz0 hz1 hz2 rfl (one_ints _ _) rfl HS1 _ rfl (n - (i + 1)) ((q.drop (i + 1)).map (Value.int .i64)) ?s1 (by simp [maxLen]; omega) (by omega) ?_
         case s1 =>
           refine Src.ofSlice _ Try.underlying32 _ _ _ _ (by rw [HQ2.out, Nat.mul_one]) (fun j u hu => ?_) (one_ints _ _)
           rw [show ((⟨g, i + 1, none⟩ : Addr).add j) = ⟨g, i + 1 + j, none⟩ from by unfold Addr.add; split <;> simp_all]
           refine sl_cells (HS1.perm (List.Perm.cons _ (List.Perm.swap _ _ _))).tail (i + 1 + j) u ?_
           simpa using hu
         intro ao2 cap2 w2 S2 HS2 HF2
         have HG2 := HG.trans HF2
         have HS3 := HS2.swap
         have k3 := (cell_of_block (o := 1) (HS3.block (List.mem_cons_self ..))).trans (by rfl)
         have f3 := free_of_block (o := 1) (HS3.block (List.mem_cons_self ..))
         clear HS2 HF2 HS1 HG))
    all_goals
      go_wp2
      go_ret2
      have H4 := HS3.set 1 (.slice ao2 (i + (n - (i + 1))) cap2)
      have H5 : Sat (refParts p most ao2 cap2 (q.eraseIdx i)) (w2.setCell ⟨p, 1, none⟩ (.slice ao2 (i + (n - (i + 1))) cap2)) S2 := by
        have h := (H4.perm (List.perm_append_comm (l₁ := [_, _]) (l₂ := [_]))).tail
        have e1 : (q.eraseIdx i).length = i + (n - (i + 1)) := by have := HN.out; rw [List.length_eraseIdx, if_pos (by omega)]; omega
        have e2 : (q.eraseIdx i).map (Value.int .i64) = (q.take i).map (Value.int .i64) ++ (q.drop (i + 1)).map (Value.int .i64) := by
          rw [List.eraseIdx_eq_take_drop_succ, List.map_append]
        unfold refParts
        rw [e1, e2]
        exact h
      exact ⟨_, S2, ⟨rfl, rfl⟩, sat_ref (l := []) (by simpa using H5) (by have := HN.out; simp [List.length_eraseIdx]; split <;> omega) h2, HG2.setCell HS3.owns⟩

end Go.Proofs.Yteholmfgefhgeaa
