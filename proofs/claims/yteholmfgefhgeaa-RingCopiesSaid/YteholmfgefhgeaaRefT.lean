/- The document's queue: the other calls. -/
import Derived.Test.YteholmfgefhgeaaRefS
namespace Go.Proofs.Yteholmfgefhgeaa
open Go.RowKit Go.Sep

theorem RNew_ok (n : Nat) (h1 : 1 ≤ n) (h2 : n ≤ 4096) :
    Tri Try.prog 6 #[.int .i64 n] [] (fun e L => ∃ p, e = .returned (.pointer (some ⟨p, 0, none⟩)) ∧ L = [refHP p n []]) := by
  intro w S hS
  have h1' : (1 : Int) ≤ n := by omega
  go_enter Try.func6, Try.ntmps6
  go_wp2
  go_ret
  have H1 := hS.alloc (.cells #[.int .i64 n, .slice none 0 0] 34)
  have F1 := (Fr.refl S w).alloc (.cells #[.int .i64 n, .slice none 0 0] 34)
  have H2 : Sat (slHP none 0 0 3 1 [] :: [pto w.heap.size (.cells #[.int .i64 n, .slice none 0 0] 34)]) _ _ := sl_nil 3 1 H1
  exact ⟨_, _, ⟨w.heap.size, rfl, rfl⟩, sat_ref (l := []) (ao := none) (cap := 0) H2.swap (by simp) h2, F1⟩

theorem RPush_full (p most : Nat) (q : List Int) (x : Int) (hq : q.length = most) :
    Tri Try.prog 13 #[.pointer (some ⟨p, 0, none⟩), .int .i64 x] [refHP p most q] (fun e L => e = .returned (.int .i64 3) ∧ L = [refHP p most q]) := by
  refine ref_quiet fun w ao cap hR => ?_
  obtain ⟨c0, c1, -, h1, h2, h3, h4⟩ := hR
  obtain ⟨n, hn⟩ : ∃ n, q.length = n := ⟨_, rfl⟩
  rw [hn] at c1 h1 h3 hq
  clear hn
  subst hq
  go_enter Try.func13, Try.ntmps13
  go_wp2
  go_quiet (fail)
  go_wp2
  go_ret
  exact ⟨rfl, _, rfl⟩

theorem RFront_full (p most : Nat) (q : List Int) (x : Int) (hq : q.length = most) :
    Tri Try.prog 15 #[.pointer (some ⟨p, 0, none⟩), .int .i64 x] [refHP p most q] (fun e L => e = .returned (.int .i64 3) ∧ L = [refHP p most q]) := by
  refine ref_quiet fun w ao cap hR => ?_
  obtain ⟨c0, c1, -, h1, h2, h3, h4⟩ := hR
  obtain ⟨n, hn⟩ : ∃ n, q.length = n := ⟨_, rfl⟩
  rw [hn] at c1 h1 h3 hq
  clear hn
  subst hq
  go_enter Try.func15, Try.ntmps15
  go_wp2
  go_quiet (fail)
  go_wp2
  go_ret
  exact ⟨rfl, _, rfl⟩

theorem RFront_room (p most : Nat) (q : List Int) (x : Int) (hq : q.length < most) :
    Tri Try.prog 15 #[.pointer (some ⟨p, 0, none⟩), .int .i64 x] [refHP p most q] (fun e L => e = .returned (.int .i64 0) ∧ L = [refHP p most (x :: q)]) := by
  refine ref_tri fun w S ao cap hR hS fp sp => ?_
  have f1 := fp 1
  have hp := hS.old p sp
  obtain ⟨i0, hi, hz0, hz1, hz2⟩ := info_parts infoInt
  obtain ⟨c0, c1, cb, h1, h2, h3, h4⟩ := hR
  obtain ⟨n, hn⟩ : ∃ n, q.length = n := ⟨_, rfl⟩
  have HN := Lib.hid hn
  rw [hn] at c1 h1 h3 hq
  have hlt : ¬ ((most : Int) ≤ (n : Int)) := by omega
  clear cb hn fp
  go_enter Try.func15, Try.ntmps15
  go_wp2
  go_quiet (fail)
  obtain ⟨W, hW⟩ : ∃ W, W = w.drewN nq := ⟨_, rfl⟩
  have HF : Fr S S w W := by rw [hW]; exact (Fr.refl S w).drewN nq
  have HS : Sat (refParts p most ao cap q) W S := by rw [hW]; exact hS.drewN nq
  have d1 : W.cell? ⟨p, 1, none⟩ = some (.slice ao n cap) := by rw [hW]; exact c1
  have hp' : p < W.heap.size := by rw [hW]; exact hp
  have f1' : W.frozen? ⟨p, 1, none⟩ = false := by rw [hW]; exact f1
  rw [← hW]
  clear hW c0 c1 f1 hS hp
  have HA := sl_row (xs := [Value.int .i64 x]) (spare := []) (n := 1) (cap := 1) (size := 1) (HS.alloc (.cells #[.int .i64 x] 3)) (Nat.le_refl _) (by simp [maxLen]) rfl rfl
  have HSrc : Src Try.prog 1 32 (.slice ao q.length cap) q.length (q.map (Value.int .i64)) (W.alloc (.cells #[.int .i64 x] 3)) := sl_src (HA.tail.swap) Try.underlying32 (one_ints _ _)
  rw [HN.out] at HSrc
  have HFA := HF.alloc (.cells #[.int .i64 x] 3)
  have HX := Lib.hid (And.intro HS HF)
  clear HS HF
  go_wp2_with (at_builtin; refine wpList_append_sep rfl (.tmp 17) (.tmp 21) 32 32 rfl i0 (.int .i64 0) Try.underlying32 hi hz0 hz1 hz2 rfl (by simp [Value.oneCell']) rfl HA _ rfl _ _ HSrc (by simp [maxLen]; omega) (by omega) ?_
               intro ao2 cap2 w2 S2 HS2 HF2
               have HG2 := HFA.trans HF2
               have HS3 := HS2.swap
               have f2 := free_of_block (o := 1) (HS3.block (List.mem_cons_self ..))
               have k2 := (cell_of_block (o := 1) (HS3.block (List.mem_cons_self ..))).trans (by rfl)
               clear HS2 HF2 HA HSrc HFA)
  go_ret
  obtain rfl := HN.out
  have H4 := HS3.set 1 (.slice ao2 (1 + q.length) cap2)
  have H5 : Sat (refParts p most ao2 cap2 (x :: q)) (w2.setCell ⟨p, 1, none⟩ (.slice ao2 (1 + q.length) cap2)) S2 := by
    have h := (H4.perm (List.perm_append_comm (l₁ := [_, _]) (l₂ := [_]))).tail
    unfold refParts
    rw [List.length_cons, Nat.add_comm q.length 1, List.map_cons]
    exact h
  exact ⟨_, S2, ⟨rfl, rfl⟩, sat_ref (l := []) (by simpa using H5) (by simp; omega) h2, HG2.setCell HS3.owns⟩

theorem take_out (p most : Nat) (q : List Int) (i : Int) (hi : i < 0 ∨ (q.length : Int) ≤ i) :
    Tri Try.prog 26 #[.pointer (some ⟨p, 0, none⟩), .int .i64 i] [refHP p most q] (fun e L => e = .returned (.tuple #[.int .i64 0, .bool false]) ∧ L = [refHP p most q]) := by
  refine ref_quiet fun w ao cap hR => ?_
  have HP := RAt_out hR i hi
  clear hi hR
  go_enter Try.func26, Try.ntmps26
  go_wp2_with (go_at_call 31; refine HP.mono ?_; rintro e w' ⟨rfl, m, rfl⟩)
  go_ret2
  exact ⟨rfl, _, rfl⟩

/-- What a call of take answers, by the place. -/
theorem take_any (p most : Nat) (q : List Int) (i : Int) (Q : Ending → List HP → Prop)
    (h1 : ∀ k : Nat, i = k → k < q.length → Q (.returned (.tuple #[.int .i64 (el q k), .bool true])) [refHP p most (q.eraseIdx k)])
    (h2 : (i < 0 ∨ (q.length : Int) ≤ i) → Q (.returned (.tuple #[.int .i64 0, .bool false])) [refHP p most q]) :
    Tri Try.prog 26 #[.pointer (some ⟨p, 0, none⟩), .int .i64 i] [refHP p most q] Q := by
  by_cases c : i < 0 ∨ (q.length : Int) ≤ i
  · refine (take_out p most q i c).mono ?_
    rintro e L ⟨rfl, rfl⟩
    exact h2 c
  · obtain ⟨k, rfl⟩ : ∃ k : Nat, i = k := ⟨i.toNat, by omega⟩
    refine (take_in p most q k (by omega)).mono ?_
    rintro e L ⟨rfl, rfl⟩
    exact h1 k rfl (by omega)

theorem RPop_empty (p most : Nat) (q : List Int) (hq : q = []) :
    Tri Try.prog 16 #[.pointer (some ⟨p, 0, none⟩)] [refHP p most q] (fun e L => e = .returned (.tuple #[.int .i64 0, .bool false]) ∧ L = [refHP p most q]) := by
  intro w S hS
  have HT := (take_out p most q 0 (.inr (by rw [hq]; simp))).call (F := []) (by simpa using hS)
  clear hq
  go_enter Try.func16, Try.ntmps16
  go_wp2_with (go_at_call 26; refine HT.mono ?_; rintro e w' ⟨L, S', ⟨rfl, rfl⟩, hS', hF'⟩)
  go_ret2
  exact ⟨_, S', ⟨rfl, rfl⟩, by simpa using hS', hF'⟩

theorem RPop_some (p most : Nat) (q : List Int) (x : Int) :
    Tri Try.prog 16 #[.pointer (some ⟨p, 0, none⟩)] [refHP p most (x :: q)] (fun e L => e = .returned (.tuple #[.int .i64 x, .bool true]) ∧ L = [refHP p most q]) := by
  intro w S hS
  have HT := (take_in p most (x :: q) 0 (by simp)).call (F := []) (by simpa using hS)
  have e1 : el (x :: q) 0 = x := rfl
  rw [e1, List.eraseIdx_zero, List.tail_cons] at HT
  clear e1
  go_enter Try.func16, Try.ntmps16
  go_wp2_with (go_at_call 26; refine HT.mono ?_; rintro e w' ⟨L, S', ⟨rfl, rfl⟩, hS', hF'⟩)
  go_ret2
  exact ⟨_, S', ⟨rfl, rfl⟩, by simpa using hS', hF'⟩

theorem RBack_empty (p most : Nat) (q : List Int) (hq : q = []) :
    Tri Try.prog 18 #[.pointer (some ⟨p, 0, none⟩)] [refHP p most q] (fun e L => e = .returned (.tuple #[.int .i64 0, .bool false]) ∧ L = [refHP p most q]) := by
  refine ref_tri fun w S ao cap hR hS fp sp => ?_
  have HT := (take_out p most q (-1) (.inl (by omega))).call (F := []) (w := w) (S := S) (by simpa using sat_ref (l := []) (by simpa using hS) hR.h1 hR.h2)
  obtain ⟨c0, c1, -, h1, h2, h3, h4⟩ := hR
  subst hq
  go_enter Try.func18, Try.ntmps18
  go_wp2_with (go_at_call 26; refine HT.mono ?_; rintro e w' ⟨L, S', ⟨rfl, rfl⟩, hS', hF'⟩)
  go_ret2
  exact ⟨_, S', ⟨rfl, rfl⟩, by simpa using hS', hF'⟩

theorem RBack_some (p most : Nat) (q : List Int) (x : Int) :
    Tri Try.prog 18 #[.pointer (some ⟨p, 0, none⟩)] [refHP p most (q ++ [x])] (fun e L => e = .returned (.tuple #[.int .i64 x, .bool true]) ∧ L = [refHP p most q]) := by
  refine ref_tri fun w S ao cap hR hS fp sp => ?_
  have HT := (take_in p most (q ++ [x]) q.length (by simp)).call (F := []) (w := w) (S := S) (by simpa using sat_ref (l := []) (by simpa using hS) hR.h1 hR.h2)
  have e1 : el (q ++ [x]) q.length = x := by simp [el, List.getD]
  have e2 : (q ++ [x]).eraseIdx q.length = q := by simp [List.eraseIdx_append]
  rw [e1, e2] at HT
  obtain ⟨c0, c1, -, h1, h2, h3, h4⟩ := hR
  have e3 : (q ++ [x]).length = q.length + 1 := by simp
  rw [e3] at c1 h1 h3
  clear e1 e2 e3
  obtain ⟨n, hn⟩ : ∃ n, q.length = n := ⟨_, rfl⟩
  rw [hn] at c1 h1 h3 HT
  have HN := Lib.hid hn
  clear hn
  go_enter Try.func18, Try.ntmps18
  go_wp2_with (go_at_call 26; refine HT.mono ?_; rintro e w' ⟨L, S', ⟨rfl, rfl⟩, hS', hF'⟩)
  go_ret2
  exact ⟨_, S', ⟨rfl, rfl⟩, by simpa using hS', hF'⟩

theorem RRemove_none (p most : Nat) (q : List Int) (x : Int) (hq : x ∉ q) :
    Tri Try.prog 20 #[.pointer (some ⟨p, 0, none⟩), .int .i64 x] [refHP p most q] (fun e L => e = .returned (.bool false) ∧ L = [refHP p most q]) := by
  refine ref_tri fun w S ao cap hR hS fp sp => ?_
  have HF := RFind_any hR x
  rw [firstOf_none] at HF
  · have HT := fun m => (take_out p most q (-1) (.inl (by omega))).call (F := []) (w := w.drewN m) (S := S) (by simpa using sat_ref (l := []) (by simpa using hS.drewN m) hR.h1 hR.h2)
    clear hq hR hS fp
    go_enter Try.func20, Try.ntmps20
    go_wp2_with first
      | (go_at_call 29; refine HF.mono ?_; rintro e w' ⟨rfl, m, rfl⟩)
      | (go_at_call 26; refine (HT _).mono ?_; rintro e w' ⟨L, S', ⟨rfl, rfl⟩, hS', hF'⟩)
    go_ret
    exact ⟨_, S', ⟨rfl, rfl⟩, by simpa using hS', ((Fr.refl S w).drewN _).trans hF'⟩
  · intro j hj he
    apply hq
    rw [← he]
    have : el q j = q[j] := by simp [el, List.getD, hj]
    rw [this]
    exact List.getElem_mem hj

theorem RRemove_some (p most : Nat) (q : List Int) (x : Int) (k0 : Nat) (hk0 : k0 < q.length) (hx : q.getD k0 0 = x) (hno : ∀ j, j < k0 → q.getD j 0 ≠ x) :
    Tri Try.prog 20 #[.pointer (some ⟨p, 0, none⟩), .int .i64 x] [refHP p most q] (fun e L => e = .returned (.bool true) ∧ L = [refHP p most (q.eraseIdx k0)]) := by
  refine ref_tri fun w S ao cap hR hS fp sp => ?_
  have HF := RFind_any hR x
  rw [firstOf_some (g := el q) hk0 hx hno] at HF
  have HT := fun m => (take_in p most q k0 hk0).call (F := []) (w := w.drewN m) (S := S) (by simpa using sat_ref (l := []) (by simpa using hS.drewN m) hR.h1 hR.h2)
  clear hx hno hk0 hR hS fp
  go_enter Try.func20, Try.ntmps20
  go_wp2_with first
    | (go_at_call 29; refine HF.mono ?_; rintro e w' ⟨rfl, m, rfl⟩)
    | (go_at_call 26; refine (HT _).mono ?_; rintro e w' ⟨L, S', ⟨rfl, rfl⟩, hS', hF'⟩)
  go_ret
  exact ⟨_, S', ⟨rfl, rfl⟩, by simpa using hS', ((Fr.refl S w).drewN _).trans hF'⟩

end Go.Proofs.Yteholmfgefhgeaa
