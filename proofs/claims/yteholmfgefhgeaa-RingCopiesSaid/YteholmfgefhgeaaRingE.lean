/- The package ring: New, Copy. -/
import Derived.Test.YteholmfgefhgeaaRingD
import Derived.Test.YteholmfgefhgeaaSepB
namespace Go.Proofs.Yteholmfgefhgeaa
open Go.RowKit Go.Sep

theorem New_bad (w : World) (n : Int) (h : n < 1 ∨ 4096 < n) :
    Calls Try.prog 5 #[.int .i64 n] w fun e w' => e = .returned (.pointer none) ∧ w = w' := by
  by_cases h0 : n < 1
  · go_enter Try.func5, Try.ntmps5
    go_wp2
    go_ret
    exact ⟨rfl, rfl⟩
  · have h1 : 4096 < n := by omega
    go_enter Try.func5, Try.ntmps5
    go_wp2
    go_ret
    exact ⟨rfl, rfl⟩

theorem infoInt : (Try.prog.info? 3).map (fun i => (i.zero, i.size, i.bytes)) = some (some (.int .i64 0), 1, 8) := by kernel_rfl

theorem mk_ints (n : Nat) (hn : n ≤ 1048576) (w : World) :
    (Instr.makeSlice 32 (.int .i64 n) (.int .i64 n)).run Try.prog w = .ok (.slice (some ⟨w.heap.size, 0, none⟩) n n) (w.alloc (.cells (zeros n) 3)) := by
  obtain ⟨i0, hi, hz0, hz1, hz2⟩ := info_parts infoInt
  exact run_make_ints w _ _ i0 Try.underlying32 hi hz0 hz1 hz2 n hn

theorem New_ok (n : Nat) (h1 : 1 ≤ n) (h2 : n ≤ 4096) :
    Tri Try.prog 5 #[.int .i64 n] [] (fun e L => ∃ p, e = .returned (.pointer (some ⟨p, 0, none⟩)) ∧ L = [ringHP p n []]) := by
  intro w S hS
  have h1' : (1 : Int) ≤ n := by omega
  have hmk := mk_ints n (by omega)
  go_enter Try.func5, Try.ntmps5
  go_wp2
  go_ret
  have H1 := (hS.alloc (.cells (zeros n) 3)).alloc (.cells #[.slice (some ⟨w.heap.size, 0, none⟩) n n, .int .i64 0, .int .i64 0] 44)
  have F1 := (((Fr.refl S w).alloc (.cells (zeros n) 3)).alloc (.cells #[.slice (some ⟨w.heap.size, 0, none⟩) n n, .int .i64 0, .int .i64 0] 44))
  rw [World.size_alloc] at H1 F1
  refine ⟨_, _, ⟨w.heap.size + 1, rfl, rfl⟩, sat_ring (lb := w.heap.size) (f := 0) (n := 0) (buf := List.replicate n 0) ?_ (by simp) h1 h2 (by omega) (by omega) rfl, F1⟩
  exact H1

theorem goInt_nat (n : Nat) : goInt n = Value.int .i64 n := rfl

theorem infoInt1 : (Try.prog.info? 3).map (·.size) = some 1 := by kernel_rfl

set_option maxHeartbeats 800000 in
theorem Copy_ok (p most : Nat) (q : List Int) :
    Tri Try.prog 8 #[.pointer (some ⟨p, 0, none⟩)] [ringHP p most q] (fun e L => ∃ p', e = .returned (.pointer (some ⟨p', 0, none⟩)) ∧ L = [ringHP p' most q, ringHP p most q]) := by
  refine ring_tri fun w S lb f n buf hn hO => ?_
  have HM := made_any hO.rr
  obtain ⟨c0, c1, c2, cb, h1, h2, h3, h4, h5⟩ := hO.rr
  have hmk := mk_ints most (by omega)
  have hS := hO.sat
  have sp := hO.sp
  clear cb h5
  go_enter Try.func8, Try.ntmps8
  go_wp2_with (go_at_call 21; refine HM.mono ?_; rintro e w' ⟨rfl, rfl⟩)
  go_region_held3 (fun w' => w'.cell? ⟨p, 0, none⟩ = some (.slice (some ⟨lb, 0, none⟩) most most) ∧ w'.cell? ⟨p, 2, none⟩ = some (.int .i64 n)) (go_keep) (fail)
  go_wp2
  obtain ⟨W, hW⟩ : ∃ W, W = ((w.alloc (.cells (zeros most) 3)).alloc (.cells #[.slice (some ⟨w.heap.size, 0, none⟩) most most, .int .i64 0, .int .i64 n] 44)).drew := ⟨_, rfl⟩
  have H1 : ∃ S1, Sat (ringParts (w.heap.size + 1) w.heap.size most 0 n (List.replicate most 0) ++ ringParts p lb most f n buf) W S1 ∧ Fr S S1 w W := by
    have HA := ((hS.alloc (.cells (zeros most) 3)).alloc (.cells #[.slice (some ⟨w.heap.size, 0, none⟩) most most, .int .i64 0, .int .i64 n] 44)).drew
    have HF := (((Fr.refl S w).alloc (.cells (zeros most) 3)).alloc (.cells #[.slice (some ⟨w.heap.size, 0, none⟩) most most, .int .i64 0, .int .i64 n] 44)).drew
    rw [World.size_alloc] at HA HF
    rw [← hW] at HA HF
    exact ⟨_, HA, HF⟩
  rw [← hW]
  clear hW hS c0 c1 c2 HM hmk
  generalize w.heap.size = b2 at H1 ⊢
  obtain ⟨S1, HS, HF⟩ := H1
  have HS2 := Lib.hid HS.swap
  have HF2 := Lib.hid HF
  clear HF
  have d0 := HS2.out.block (b := b2 + 1) (by simp; exact .inr (.inl rfl))
  have d1 := HS2.out.block (b := p) (by simp; exact .inr (.inr (.inl rfl)))
  have d2 := HS2.out.block (b := lb) (by simp; exact .inr (.inr (.inr rfl)))
  have c0 := (cell_of_block (o := 0) d0).trans (by rfl)
  have c1 := (cell_of_block (o := 0) d1).trans (by rfl)
  have c2 := (cell_of_block (o := 1) d1).trans (by rfl)
  have h5 := hO.rr.h5
  have cb : ∀ j v, ((buf.drop f).map (Value.int .i64))[j]? = some v → W.cell? ((⟨lb, f, none⟩ : Addr).add j) = some v := by
    intro j v hv
    have : (⟨lb, f, none⟩ : Addr).add j = ⟨lb, f + j, none⟩ := by unfold Addr.add; split <;> simp_all
    rw [this, cell_of_block d2]
    simpa [ints] using hv
  have HB := Lib.hid cb
  have hlen : ((buf.drop f).map (Value.int .i64)).length = most - f := by simp [h5]
  have HL := Lib.hid hlen
  clear d0 d1 d2 HS cb h5 hlen
  have hf' : (f : Int) < (most : Int) := by omega
  have hf0 : (0 : Int) ≤ (f : Int) := by omega
  have hfl : (f : Int) ≤ (most : Int) := by omega
  have hmf : ¬ most = f := by omega
  go_region_held3 (fun w' => w'.cell? ⟨b2 + 1, 0, none⟩ = some (.slice (some ⟨b2, 0, none⟩) most most) ∧ w'.cell? ⟨p, 0, none⟩ = some (.slice (some ⟨lb, 0, none⟩) most most) ∧ w'.cell? ⟨p, 1, none⟩ = some (.int .i64 f)) (go_keep)
    (first | (refine step_copy_sep rfl (.tmp 23) (.tmp 32) 32 32 rfl 3 Try.underlying32 infoInt1 (some ⟨b2, 0, none⟩) (some ⟨lb, f, none⟩) most most (most - f) (most - f) rfl rfl b2 0 ((List.replicate most 0).map (Value.int .i64)) 3 HS2.out.drew ((buf.drop f).map (Value.int .i64)) (by rw [HL.out]; exact (Nat.min_eq_left (by omega)).symm) (fun _ => ⟨rfl, _, rfl, HB.out⟩) (by rw [HL.out]; simp) (one_ints _ _) ?_
              intro w4 hS4 hF4
              have HS4 := Lib.hid hS4
              have HF4 := Lib.hid hF4
              have d0 := hS4.block (b := b2 + 1) (by simp; exact .inr (.inl rfl))
              have d1 := hS4.block (b := p) (by simp; exact .inr (.inr (.inl rfl)))
              have k0 := (cell_of_block (o := 0) d0).trans (by rfl)
              have k1 := (cell_of_block (o := 0) d1).trans (by rfl)
              have k2 := (cell_of_block (o := 1) d1).trans (by rfl)
              clear hS4 hF4 d0 d1
              rw [HL.out]))
  go_wp2_with fail
  have hd1 : most - f ≤ most := by omega
  have hd2 : most - (most - f) = f := by omega
  have h5 := hO.rr.h5
  have HC1 : Hid (splice ((List.replicate most 0).map (Value.int .i64)) 0 ((buf.drop f).map (Value.int .i64)) = (buf.drop f ++ List.replicate f 0).map (Value.int .i64)) := by
    show splice ((List.replicate most 0).map (Value.int .i64)) 0 ((buf.drop f).map (Value.int .i64)) = (buf.drop f ++ List.replicate f 0).map (Value.int .i64)
    unfold splice
    rw [List.take_zero, List.nil_append, Nat.zero_add, List.length_map, List.length_drop, h5, ← List.map_drop, List.drop_replicate, hd2, ← List.map_append]
  have HC2 : Hid (splice ((buf.drop f ++ List.replicate f 0).map (Value.int .i64)) (most - f) ((buf.take f).map (Value.int .i64)) = (buf.drop f ++ buf.take f).map (Value.int .i64)) := by
    show splice ((buf.drop f ++ List.replicate f 0).map (Value.int .i64)) (most - f) ((buf.take f).map (Value.int .i64)) = (buf.drop f ++ buf.take f).map (Value.int .i64)
    unfold splice
    have e1 : (buf.drop f).length = most - f := by simp [h5]
    rw [List.map_append, List.take_left' (by simpa using e1), show List.drop (most - f + ((buf.take f).map (Value.int .i64)).length) ((buf.drop f).map (Value.int .i64) ++ (List.replicate f 0).map (Value.int .i64)) = [] from List.drop_of_length_le (by simp [h5]; omega), List.append_nil, ← List.map_append]
  have HQ : Hid (q = told most 0 (buf.drop f ++ buf.take f) n) := by
    show q = told most 0 (buf.drop f ++ buf.take f) n
    rw [hO.eq]
    unfold told
    apply List.map_congr_left
    intro i hi
    have hi' := List.mem_range.1 hi
    unfold nth
    rw [pos_eq h3 (by omega), Nat.zero_add, Nat.mod_eq_of_lt (by omega)]
    simp only [List.getD, List.getElem?_append, List.length_drop, List.getElem?_drop, List.getElem?_take, h5]
    split
    · rw [if_pos (by omega)]
    · rw [if_neg (by omega), if_pos (by omega)]
      congr 2
      omega
  have HL2 : Hid (((buf.take f).map (Value.int .i64)).length = f) := by
    show ((buf.take f).map (Value.int .i64)).length = f
    simp [h5]; omega
  have HB2 : Hid (∀ j v, ((buf.take f).map (Value.int .i64))[j]? = some v → w4.cell? ((⟨lb, 0, none⟩ : Addr).add j) = some v) := by
    intro j v hv
    rw [addr_add, cell_of_block (HS4.out.block (b := lb) (by simp; exact .inr (.inr (.inr rfl))))]
    have hj : j < f := by
      have := (List.getElem?_eq_some_iff.1 hv).1
      simp at this; omega
    simpa [ints, List.getElem?_take, hj] using hv
  have HR : Hid ((buf.drop f ++ buf.take f).length = most) := by
    show (buf.drop f ++ buf.take f).length = most
    simp [h5]; omega
  have HO : Hid (buf.length = most ∧ q = told most f buf n) := ⟨h5, hO.eq⟩
  rw [HC1.out] at HS4
  clear HC1 hd2 h5 hO HL HB HS2
  generalize hd : most - f = d at *
  have HD := Lib.hid hd
  clear hd
  have hd0 : (0 : Int) ≤ (d : Int) := by omega
  have hd3 : (d : Int) ≤ (most : Int) := by omega
  have hd4 : 0 < d := by have := HD.out; omega
  have FIN : ∀ w5 : World, Sat (pt b2 (ints (buf.drop f ++ buf.take f)) 3 :: pt (b2 + 1) #[.slice (some ⟨b2, 0, none⟩) most most, .int .i64 ((0 : Nat) : Int), .int .i64 n] 44 :: ringParts p lb most f n buf) w5 S1 →
      Sat [ringHP (b2 + 1) most q, ringHP p most q] w5 S1 := by
    intro w5 h
    have h1' : Sat (ringParts (b2 + 1) b2 most 0 n (buf.drop f ++ buf.take f) ++ ringParts p lb most f n buf) w5 S1 := h.swap
    have h2' := sat_ring_l (h1'.perm List.perm_append_comm) HO.out.1 h1 h2 h3 h4 HO.out.2
    have h3' : Sat (ringParts (b2 + 1) b2 most 0 n (buf.drop f ++ buf.take f) ++ [ringHP p most q]) w5 S1 := h2'.perm (List.perm_append_comm (l₁ := [ringHP p most q]))
    exact sat_ring_l h3' HR.out h1 h2 (by omega) h4 HQ.out
  have HFIN := Lib.hid FIN
  clear FIN
  clear c0 c1 c2
  by_cases hf1 : f = 0
  · subst hf1
    obtain rfl : d = most := by have := HD.out; omega
    go_region_held3 (fun w' => w'.cell? ⟨b2 + 1, 0, none⟩ = some (.slice (some ⟨b2, 0, none⟩) d d) ∧ w'.cell? ⟨p, 0, none⟩ = some (.slice (some ⟨lb, 0, none⟩) d d) ∧ w'.cell? ⟨p, 1, none⟩ = some (.int .i64 ((0 : Nat) : Int))) (go_keep)
      (first | (refine step_copy_sep rfl (.tmp 39) (.tmp 48) 32 32 rfl 3 Try.underlying32 infoInt1 _ _ _ _ _ _ rfl rfl b2 d ((buf.drop 0 ++ List.replicate 0 0).map (Value.int .i64)) 3 HS4.out.drew ((buf.take 0).map (Value.int .i64)) (by simp) (by simp) (by have := HR.out; simp at this ⊢; omega) (one_ints _ _) ?_
                intro w5 hS5 hF5
                have HS5 := Lib.hid hS5
                have HF5 := Lib.hid hF5
                have d0 := hS5.block (b := b2 + 1) (by simp; exact .inr (.inl rfl))
                have d1 := hS5.block (b := p) (by simp; exact .inr (.inr (.inl rfl)))
                have m0 := (cell_of_block (o := 0) d0).trans (by rfl)
                have m1 := (cell_of_block (o := 0) d1).trans (by rfl)
                have m2 := (cell_of_block (o := 1) d1).trans (by rfl)
                clear hS5 hF5 d0 d1))
    go_wp2
    go_ret
    have h := HS5.out
    rw [HC2.out] at h
    exact ⟨_, S1, ⟨b2 + 1, rfl, rfl⟩, HFIN.out _ h, (HF2.out.drew.trans HF4.out).drew.trans HF5.out⟩
  · have hdm : ¬ most = d := by have := HD.out; omega
    have hfm : (f : Int) ≤ (most : Int) := by omega
    go_region_held3 (fun w' => w'.cell? ⟨b2 + 1, 0, none⟩ = some (.slice (some ⟨b2, 0, none⟩) most most) ∧ w'.cell? ⟨p, 0, none⟩ = some (.slice (some ⟨lb, 0, none⟩) most most) ∧ w'.cell? ⟨p, 1, none⟩ = some (.int .i64 f)) (go_keep)
      (first | (refine step_copy_sep rfl (.tmp 39) (.tmp 48) 32 32 rfl 3 Try.underlying32 infoInt1 _ _ _ _ _ _ rfl rfl b2 d ((buf.drop f ++ List.replicate f 0).map (Value.int .i64)) 3 HS4.out.drew ((buf.take f).map (Value.int .i64)) (by rw [HL2.out]; have := HD.out; exact (Nat.min_eq_left (by omega)).symm) (fun _ => ⟨rfl, _, rfl, HB2.out⟩) (by rw [HL2.out]; have := HR.out; have := HD.out; simp at *; omega) (one_ints _ _) ?_
                intro w5 hS5 hF5
                have HS5 := Lib.hid hS5
                have HF5 := Lib.hid hF5
                have d0 := hS5.block (b := b2 + 1) (by simp; exact .inr (.inl rfl))
                have d1 := hS5.block (b := p) (by simp; exact .inr (.inr (.inl rfl)))
                have m0 := (cell_of_block (o := 0) d0).trans (by rfl)
                have m1 := (cell_of_block (o := 0) d1).trans (by rfl)
                have m2 := (cell_of_block (o := 1) d1).trans (by rfl)
                clear hS5 hF5 d0 d1))
    go_wp2
    go_ret
    have h := HS5.out
    rw [HC2.out] at h
    exact ⟨_, S1, ⟨b2 + 1, rfl, rfl⟩, HFIN.out _ h, (HF2.out.drew.trans HF4.out).drew.trans HF5.out⟩
end Go.Proofs.Yteholmfgefhgeaa
