/- The law RingCopies, walked. -/
import Derived.Test.YteholmfgefhgeaaLives
import Derived.WalkSpells
namespace Go.Proofs.Yteholmfgefhgeaa
open Go.RowKit Go.Sep

/-- The acts that a slice holds. -/
structure ActsIn (w : World) (ao : Option Addr) (n cap : Nat) (l : List (Int × Int)) : Prop where
  len : l.length = n
  le : n ≤ cap
  cap : cap ≤ 9223372036854775807
  cell : ∀ j, j < n → ∃ b off, ao = some ⟨b, off, none⟩ ∧ b < w.heap.size ∧ w.cell? ⟨b, off + j * 2, none⟩ = some (.int .i64 (l.getD j (0, 0)).1) ∧ w.cell? ⟨b, off + j * 2 + 1, none⟩ = some (.int .i64 (l.getD j (0, 0)).2)

theorem ActsIn.keep {w w' : World} {S' : Fp} {ao : Option Addr} {n cap : Nat} {l : List (Int × Int)} (h : ActsIn w ao n cap l) (hf : Fr (fun _ => False) S' w w') : ActsIn w' ao n cap l :=
  ⟨h.len, h.le, h.cap, fun j hj => by
    obtain ⟨b, off, e, hb, h1, h2⟩ := h.cell j hj
    have hs := hf.same b hb (fun f => f)
    exact ⟨b, off, e, Nat.lt_of_lt_of_le hb hf.size, (World.cell?_of_block (a := ⟨b, off + j * 2, none⟩) hs).trans h1, (World.cell?_of_block (a := ⟨b, off + j * 2 + 1, none⟩) hs).trans h2⟩⟩

theorem law_long {w : World} {ao bo : Option Addr} {n m cap cap2 : Nat} (h : 200 < n ∨ 200 < m) (hn : n ≤ 9223372036854775807) (hm : m ≤ 9223372036854775807) :
    Calls Try.prog 3 #[.slice ao n cap, .slice bo m cap2] w (TEnd (fun e L => e = .returned (.bool true) ∧ L = []) w (fun _ => False)) := by
  have C := fun w' : World => (lives_any).call (F := []) (w := w') (S := fun _ => False) (fun _ f => f.elim)
  by_cases h1 : 200 < n
  · have h1' : (200 : Int) < (n : Int) := by omega
    go_enter Try.func3, Try.ntmps3
    go_wp2_with (go_at_call 4; refine (C _).mono ?_; rintro e w1 ⟨L, S1, ⟨rfl, rfl⟩, hS1, hF1⟩)
    go_ret
    exact ⟨_, S1, ⟨rfl, rfl⟩, hS1, hF1⟩
  · have h1' : ¬ (200 : Int) < (n : Int) := by omega
    have h2' : (200 : Int) < (m : Int) := by omega
    go_enter Try.func3, Try.ntmps3
    go_wp2_with (go_at_call 4; refine (C _).mono ?_; rintro e w1 ⟨L, S1, ⟨rfl, rfl⟩, hS1, hF1⟩)
    go_ret
    exact ⟨_, S1, ⟨rfl, rfl⟩, hS1, hF1⟩

/-- The queue behind some acts. -/
def after (most : Nat) : List Int → List (Int × Int) → List Int
  | q, [] => q
  | q, a :: l => after most (acted most q a.1 a.2) l

theorem after_snoc (most : Nat) : ∀ (l : List (Int × Int)) (q : List Int) (a : Int × Int), after most q (l ++ [a]) = acted most (after most q l) a.1 a.2
  | [], q, a => rfl
  | b :: l, q, a => by simp only [List.cons_append, after]; exact after_snoc most l _ a

theorem acted_le (most : Nat) (q : List Int) (k x : Int) (h : q.length ≤ most) : (acted most q k x).length ≤ most := by
  unfold acted
  split
  · split
    · simp; omega
    · exact h
  split
  · split
    · simp; omega
    · exact h
  split
  · simp; omega
  split
  · simp; omega
  split
  · exact Nat.le_trans (List.length_erase_le) h
  · exact h

theorem after_le (most : Nat) : ∀ (l : List (Int × Int)) (q : List Int), q.length ≤ most → (after most q l).length ≤ most
  | [], _, h => h
  | a :: l, q, h => after_le most l _ (acted_le most q a.1 a.2 h)

def LoopRel (p p2 n : Nat) (q0 : List Int) (l : List (Int × Int)) (X : List HP) (w : World) (i : Value) (wr : World) : Prop :=
  ∃ k : Nat, k ≤ n ∧ i = .int .i64 k ∧ ∃ S', Sat (both p p2 9 (after 9 q0 (l.take k)) ++ X) wr S' ∧ Fr (fun _ => False) S' w wr

set_option maxHeartbeats 2000000 in
theorem law_short {w : World} {ao bo : Option Addr} {n m cap cap2 : Nat} {l1 l2 : List (Int × Int)} (ha : ActsIn w ao n cap l1) (hb : ActsIn w bo m cap2 l2) (hn : n ≤ 200) (hm : m ≤ 200) :
    Calls Try.prog 3 #[.slice ao n cap, .slice bo m cap2] w (TEnd (fun e L => e = .returned (.bool true) ∧ L = []) w (fun _ => False)) := by
  have hn' : ¬ (200 : Int) < (n : Int) := by omega
  have hm' : ¬ (200 : Int) < (m : Int) := by omega
  have C1 := (New_ok 9 (by omega) (by omega)).call (F := []) (w := w) (S := fun _ => False) (fun _ f => f.elim)
  go_enter Try.func3, Try.ntmps3
  go_wp2_with first
    | (go_at_call 5; refine C1.mono ?_; rintro e w1 ⟨L, S1, ⟨p, rfl, rfl⟩, hS1, hF1⟩; have C2 := (RNew_ok 9 (by omega) (by omega)).call (F := [ringHP p 9 []]) (w := w1) hS1)
    | (go_at_call 6; refine C2.mono ?_; rintro e w2 ⟨L, S2, ⟨p2, rfl, rfl⟩, hS2, hF2⟩; clear C1 C2)
  have hS3 := hS2.swap
  have hF3 := hF1.trans hF2
  clear hS1 hS2 hF1 hF2
  have H3 := Lib.hid hS3
  have HF3 := Lib.hid hF3
  clear hS3 hF3
  go_loopw [32] (fun i wr => LoopRel p p2 n [] l1 [] w i wr) (fun i _ => n - (intOf i).toNat)
  case atStart => exact ⟨0, by omega, rfl, S2, H3.out, HF3.out⟩
  case round =>
    obtain ⟨k, hk, rfl, S', hS', hF'⟩ := hrel
    by_cases hlt : k < n
    · obtain ⟨b, off, rfl, hbl, c0, c1⟩ := (ha.keep hF').cell k hlt
      have hcap := ha.cap
      have hle := ha.le
      have hlt' : (k : Int) < (n : Int) := by omega
      have hge' : (0 : Int) ≤ (k : Int) := by omega
      obtain ⟨⟨y, z⟩, hyz⟩ : ∃ a, l1.getD k (0, 0) = a := ⟨_, rfl⟩
      rw [hyz] at c0 c1
      dsimp only at c0 c1
      have HYZ := Lib.hid hyz
      have hq9 : (after 9 [] (l1.take k)).length ≤ 9 := after_le 9 _ _ (by simp)
      have CA := (act_any p p2 9 _ y z hq9).call (F := []) (hS'.alloc (.cells #[.int .i64 y, .int .i64 z] 29) |> fun h => h.tail)
      have HF' := Lib.hid hF'
      have HL := Lib.hid ha.len
      clear hyz hq9 hS' hF' ha
      go_wp2_with (go_at_call 7; refine CA.mono ?_; rintro e w3 ⟨L, S4, ⟨rfl, rfl⟩, hS4, hF4⟩)
      have HS4 := Lib.hid hS4
      have HF4 := Lib.hid hF4
      clear hS4 hF4 CA
      go_roundw
      case rel =>
        refine ⟨k + 1, by omega, by go_num, S4, ?_, (HF'.out.alloc _).trans HF4.out⟩
        have e1 : l1.take (k + 1) = l1.take k ++ [(y, z)] := by
          have h := HYZ.out
          have hl := HL.out
          rw [List.take_add_one]
          congr 1
          rw [List.getD, ] at h
          rw [List.getElem?_eq_getElem (by omega)] at h ⊢
          simpa using h
        rw [e1, after_snoc]
        exact HS4.out
      case measure => simp [intOf]; omega
    · have hkn : k = n := by omega
      subst hkn
      have e1 : l1.take k = l1 := List.take_of_length_le (by rw [ha.len]; exact Nat.le_refl _)
      rw [e1] at hS'
      have HB := Lib.hid hb
      clear ha hb H3 HF3
      obtain ⟨q, hq⟩ : ∃ q, after 9 [] l1 = q := ⟨_, rfl⟩
      have hq9 : (after 9 [] l1).length ≤ 9 := after_le 9 _ _ (by simp)
      rw [hq] at hS' hq9
      have HQ := Lib.hid hq9
      have H1 := Lib.hid hS'
      have HF1 := Lib.hid hF'
      clear hq hq9 hS' hF' e1
      obtain ⟨⟨aq, cq⟩, -, h2⟩ := (Sat.swap H1.out).unfold
      dsimp only at h2
      have h3 : Sat ([ringHP p 9 q] ++ [pt p2 #[.int .i64 (9 : Nat), .slice aq q.length cq] 34, slHP aq q.length cq 3 1 (q.map (Value.int .i64))]) wr S' := Sat.perm (List.perm_append_comm (l₁ := [_, _]) (l₂ := [_])) h2
      have hb2 := h3.block (b := p2) (List.mem_cons_of_mem _ (List.mem_cons_self ..))
      have c1 : wr.cell? ⟨p2, 1, none⟩ = some (.slice aq q.length cq) := (cell_of_block (o := 1) hb2).trans (by rfl)
      have lt2 := lt_of_some hb2
      have h4 := h3.alloc (.cells #[] 3)
      have CA := (Copy_ok p 9 q).call (F := [pt p2 #[.int .i64 (9 : Nat), .slice aq q.length cq] 34, slHP aq q.length cq 3 1 (q.map (Value.int .i64))]) h3.drew
      have CB := (Copy_ok p 9 q).call (F := [pto wr.heap.size (.cells #[] 3), pt p2 #[.int .i64 (9 : Nat), .slice aq q.length cq] 34, slHP aq q.length cq 3 1 (q.map (Value.int .i64))]) (Sat.perm (List.Perm.swap _ _ _) h4).drew
      obtain ⟨i0, hi, hz0, hz1, hz2⟩ := info_parts infoInt
      have FA := Lib.hid HF1.out.drew
      have FB := Lib.hid (HF1.out.alloc (.cells #[] 3)).drew
      clear h2 h3 h4 hb2 H1 HF1
      go_wp2_with fail
      go_region_held3 (fun w' => w'.cell? ⟨p2, 1, none⟩ = some (.slice aq q.length cq)) (go_keep) (first
        | (go_at_call 8
           refine CA.mono ?_
           rintro e w5 ⟨L, S5, ⟨p', rfl, rfl⟩, hS5, hF5⟩
           have hb5 := hS5.block (b := p2) (List.mem_cons_of_mem _ (List.mem_cons_of_mem _ (List.mem_cons_self ..)))
           have k5 : w5.cell? ⟨p2, 1, none⟩ = some (.slice aq q.length cq) := (cell_of_block (o := 1) hb5).trans (by rfl)
           have HA5 := Lib.hid (hS5.alloc (.cells #[] 3))
           have G5 := Lib.hid ((FA.out.trans hF5).alloc (.cells #[] 3))
           have lt5 := lt_of_some hb5
           clear hS5 hF5 hb5 CA CB FA FB)
        | (go_at_call 8
           refine CB.mono ?_
           rintro e w5 ⟨L, S5, ⟨p', rfl, rfl⟩, hS5, hF5⟩
           have hb5 := hS5.block (b := p2) (List.mem_cons_of_mem _ (List.mem_cons_of_mem _ (List.mem_cons_of_mem _ (List.mem_cons_self ..))))
           have k5 : w5.cell? ⟨p2, 1, none⟩ = some (.slice aq q.length cq) := (cell_of_block (o := 1) hb5).trans (by rfl)
           have HB5 := Lib.hid hS5
           have G5 := Lib.hid (FB.out.trans hF5)
           have lt5 := lt_of_some hb5
           clear hS5 hF5 hb5 CA CB FA FB)
        | (refine step_append_sep rfl (.tmp 43) (.tmp 47) 32 32 rfl i0 (.int .i64 0) Try.underlying32 hi hz0 hz1 hz2 rfl (by simp) rfl (sl_row (xs := []) (spare := []) (n := 0) (cap := 0) (size := 1) HA5.out (Nat.le_refl _) (Nat.zero_le _) rfl rfl) _ rfl _ _
             (sl_src (Sat.perm (List.perm_append_comm (l₁ := [_, _, _, _]) (l₂ := [_])) HA5.out) Try.underlying32 (one_ints _ _)) (by have := HQ.out; simp [maxLen]; omega) (by have := HQ.out; omega) ?_
           intro ao6 cap6 w6 S6 hS6 hF6
           have hb6 := hS6.block (b := p2) (List.mem_cons_of_mem _ (List.mem_cons_of_mem _ (List.mem_cons_of_mem _ (List.mem_cons_self ..))))
           have k6 : w6.cell? ⟨p2, 1, none⟩ = some (.slice aq q.length cq) := (cell_of_block (o := 1) hb6).trans (by rfl)
           have H6 := Lib.hid hS6
           have G6 := Lib.hid (G5.out.trans hF6)
           clear hS6 hF6 hb6 HA5 G5)
        | (refine step_append_sep rfl (.tmp 43) (.tmp 47) 32 32 rfl i0 (.int .i64 0) Try.underlying32 hi hz0 hz1 hz2 rfl (by simp) rfl (sl_row (xs := []) (spare := []) (n := 0) (cap := 0) (size := 1) (Sat.perm (List.Perm.trans (List.Perm.cons _ (List.Perm.swap _ _ _)) (List.Perm.swap _ _ _)) HB5.out) (Nat.le_refl _) (Nat.zero_le _) rfl rfl) _ rfl _ _
             (sl_src (Sat.perm (List.perm_append_comm (l₁ := [_, _, _, _]) (l₂ := [_])) HB5.out) Try.underlying32 (one_ints _ _)) (by have := HQ.out; simp [maxLen]; omega) (by have := HQ.out; omega) ?_
           intro ao6 cap6 w6 S6 hS6 hF6
           have hb6 := hS6.block (b := p2) (List.mem_cons_of_mem _ (List.mem_cons_of_mem _ (List.mem_cons_of_mem _ (List.mem_cons_self ..))))
           have k6 : w6.cell? ⟨p2, 1, none⟩ = some (.slice aq q.length cq) := (cell_of_block (o := 1) hb6).trans (by rfl)
           have H6 := Lib.hid hS6
           have G6 := Lib.hid (G5.out.trans hF6)
           clear hS6 hF6 hb6 HB5 G5))
      all_goals
        have h6 := H6.out
        simp only [Nat.zero_add, List.nil_append] at h6
        have h7 := h6.alloc (.cells #[.int .i64 9, .slice ao6 q.length cap6] 34)
        have g7 := G6.out.alloc (.cells #[.int .i64 9, .slice ao6 q.length cap6] 34)
        obtain ⟨W7, hW7⟩ : ∃ W, W = w6.alloc (.cells #[.int .i64 9, .slice ao6 q.length cap6] 34) := ⟨_, rfl⟩
        rw [← hW7] at h7 g7
        simp only [← hW7]
        generalize w6.heap.size = p3 at h7 g7 ⊢
        obtain ⟨S7, H7, G7⟩ : ∃ S7, Hid (Sat (both p' p3 9 q ++ [ringHP p 9 q, refHP p2 9 q]) W7 S7) ∧ Hid (Fr (fun _ => False) S7 w W7) := by
          refine ⟨_, ?_, g7⟩
          have q9 := HQ.out
          have e1 : Sat (refHP p3 9 q :: [ringHP p' 9 q, ringHP p 9 q, pt p2 #[.int .i64 (9 : Nat), .slice aq q.length cq] 34, slHP aq q.length cq 3 1 (q.map (Value.int .i64))]) W7 _ := sat_ref (ao := ao6) (cap := cap6) h7 q9 (by omega)
          have e2 := sat_ref (ao := aq) (cap := cq) (e1.perm (List.perm_append_comm (l₁ := [_, _, _]) (l₂ := [_, _]))) q9 (by omega)
          exact Sat.perm (List.perm_append_comm (l₁ := [_]) (l₂ := [_, _, _])) e2 |> fun h => h.perm ((List.Perm.swap _ _ _))
        clear hW7 h6 h7 g7 H6 G6 k6 k5 lt5 c1 lt2
        go_wp2_with fail
        go_loopw [53] (fun i wr => LoopRel p' p3 m q l2 [ringHP p 9 q, refHP p2 9 q] w i wr) (fun i _ => m - (intOf i).toNat)
        case atStart => exact ⟨0, by omega, rfl, S7, H7.out, G7.out⟩
        case round =>
          clear H7 G7
          obtain ⟨j, hj, rfl, S', hS', hF'⟩ := hrel
          by_cases hlt2 : j < m
          · obtain ⟨b, off, rfl, hbl, c0, c1⟩ := (HB.out.keep hF').cell j hlt2
            have hcap := HB.out.cap
            have hle := HB.out.le
            have hlt' : (j : Int) < (m : Int) := by omega
            have hge' : (0 : Int) ≤ (j : Int) := by omega
            obtain ⟨⟨y, z⟩, hyz⟩ : ∃ a, l2.getD j (0, 0) = a := ⟨_, rfl⟩
            rw [hyz] at c0 c1
            dsimp only at c0 c1
            have HYZ := Lib.hid hyz
            have hq9 : (after 9 q (l2.take j)).length ≤ 9 := after_le 9 _ _ HQ.out
            have CA := (act_any p' p3 9 _ y z hq9).call (F := [ringHP p 9 q, refHP p2 9 q]) (hS'.alloc (.cells #[.int .i64 y, .int .i64 z] 29) |> fun h => h.tail)
            have HF' := Lib.hid hF'
            have HL := Lib.hid HB.out.len
            clear hyz hq9 hS' hF'
            go_wp2_with (go_at_call 7; refine CA.mono ?_; rintro e w8 ⟨L, S8, ⟨rfl, rfl⟩, hS8, hF8⟩)
            have HS8 := Lib.hid hS8
            have HF8 := Lib.hid hF8
            clear hS8 hF8 CA
            go_roundw
            case rel =>
              refine ⟨j + 1, by omega, by go_num, S8, ?_, (HF'.out.alloc _).trans HF8.out⟩
              have e1 : l2.take (j + 1) = l2.take j ++ [(y, z)] := by
                have h := HYZ.out
                have hl := HL.out
                rw [List.take_add_one]
                congr 1
                rw [List.getD] at h
                rw [List.getElem?_eq_getElem (by omega)] at h ⊢
                simpa using h
              rw [e1, after_snoc]
              exact HS8.out
            case measure => simp [intOf]; omega
          · have hjm : j = m := by omega
            subst hjm
            have e1 : l2.take j = l2 := List.take_of_length_le (by rw [HB.out.len]; exact Nat.le_refl _)
            rw [e1] at hS'
            obtain ⟨q2, hq2⟩ : ∃ q2, after 9 q l2 = q2 := ⟨_, rfl⟩
            have hq29 : (after 9 q l2).length ≤ 9 := after_le 9 _ _ HQ.out
            rw [hq2] at hS' hq29
            have HQ2 := Lib.hid hq29
            have HF := Lib.hid hF'
            have C1 := (all_any p 9 q).call (F := [ringHP p' 9 q2, refHP p3 9 q2, refHP p2 9 q]) (w := wr) (S := S')
              (Sat.perm (List.Perm.trans (List.perm_append_comm (l₁ := [_, _]) (l₂ := [_, _])) (List.Perm.cons _ (List.perm_append_comm (l₁ := [_]) (l₂ := [_, _])))) hS')
            clear hq2 hq29 hS' hF' e1 HB
            go_wp2_with (go_at_call 9; refine C1.mono ?_
                         rintro e w8 ⟨L, S8, ⟨ao8, cap8, rfl, rfl⟩, hS8, hF8⟩
                         have HS8 := Lib.hid hS8
                         have HF8 := Lib.hid hF8
                         clear hS8 hF8 C1)
            have C2 := (all_any p' 9 q2).call (F := [slHP ao8 q.length cap8 3 1 (q.map (Value.int .i64)), ringHP p 9 q, refHP p3 9 q2, refHP p2 9 q]) (Sat.pull HS8.out 2 (by simp))
            refine C2.mono ?_
            clear C2
            rintro e w9 ⟨L, S9, ⟨ao9, cap9, rfl, rfl⟩, hS9, hF9⟩
            obtain ⟨a2, c2, d2, r2⟩ := ref_reads (p := p2) (most := 9) (q := q) hS9 (by simp)
            obtain ⟨a3, c3, d3, r3⟩ := ref_reads (p := p3) (most := 9) (q := q2) hS9 (by simp)
            have r8 : Reads w9 ao8 q.length cap8 q := Reads.of_mem hS9 (by simp; exact .inr (.inr (.inl rfl)))
            have r9 : Reads w9 ao9 q2.length cap9 q2 := Reads.of_mem hS9 (by simp; exact .inl rfl)
            have I1 : Calls Try.prog 10 #[.slice ao8 q.length cap8, .slice a2 q.length c2] w9 (Quiet w9 (.bool true)) := by
              have := Ints_any r8 r2
              simpa using this
            have I2 : ∀ d, Calls Try.prog 10 #[.slice ao9 q2.length cap9, .slice a3 q2.length c3] (w9.drewN d) (Quiet (w9.drewN d) (.bool true)) := by
              intro d
              have := Ints_any (r9.drewN d) (r3.drewN d)
              simpa using this
            have CL := fun d => (lives_any).call (F := []) (w := w9.drewN d) (S := S9) (fun k s => hS9.old k s)
            have HF9 := Lib.hid ((HF.out.trans HF8.out).trans hF9)
            clear hS9 hF9 r2 r3 r8 r9 HS8 HF8 HF
            generalize q.length = N1 at I1 d2 ⊢
            generalize q2.length = N2 at I2 d3 ⊢
            go_wp2_with first
              | (go_at_call_of 10 (Value.slice ao8 N1 cap8); refine I1.mono ?_; clear I1; rintro e w' ⟨rfl, d, rfl⟩)
              | (go_at_call 10; refine (I2 _).mono ?_; clear I2; rintro e w' ⟨rfl, d', rfl⟩)
              | (go_at_call 4; refine (CL _).mono ?_; rintro e w' ⟨L, S', ⟨rfl, rfl⟩, hSL, hFL⟩)
            go_ret
            exact ⟨_, S', ⟨rfl, rfl⟩, by simpa using hSL, (HF9.out.drewN _).trans hFL⟩
end Go.Proofs.Yteholmfgefhgeaa
