/- The package ring: Remove. -/
import Derived.Test.YteholmfgefhgeaaRingC
namespace Go.Proofs.Yteholmfgefhgeaa
open Go.RowKit Go.Sep

/-- What stands at the places, when those from k0 on have moved, as far as i. -/
def Shifted (g g' : Nat → Int) (k0 i n : Nat) : Prop := ∀ j, j < n → g' j = if k0 ≤ j ∧ j < i then g (j + 1) else g j

theorem shifted_step {most f n k0 i : Nat} {buf buf' : List Int} (h : Shifted (nth most f buf) (nth most f buf') k0 i n) (hb : buf'.length = most) (hf : f < most) (hn : n ≤ most) (hk : k0 ≤ i) (hi : i + 1 < n) :
    Shifted (nth most f buf) (nth most f (buf'.set ((f + i) % most) (nth most f buf' (i + 1)))) k0 (i + 1) n := by
  intro j hj
  by_cases hji : j = i
  · subst hji
    have e : nth most f (buf'.set ((f + j) % most) (nth most f buf' (j + 1))) j = nth most f buf' (j + 1) := by
      show (buf'.set ((f + j) % most) (nth most f buf' (j + 1))).getD ((f + j) % most) 0 = _
      exact getD_set_self _ _ _ (by rw [hb]; exact Nat.mod_lt _ (by omega))
    rw [e, h (j + 1) hi, if_neg (by omega), if_pos (by omega)]
  · have e : nth most f (buf'.set ((f + i) % most) (nth most f buf' (i + 1))) j = nth most f buf' j := by
      unfold nth
      apply getD_set_other
      rw [pos_eq hf (by omega), pos_eq hf (by omega)]
      split <;> split <;> omega
    rw [e, h j hj]
    by_cases c : k0 ≤ j ∧ j < i
    · rw [if_pos c, if_pos (by omega)]
    · rw [if_neg c, if_neg (by omega)]

theorem told_eraseIdx {most f n k0 : Nat} {buf buf' : List Int} (h : Shifted (nth most f buf) (nth most f buf') k0 n (n + 1)) (hk : k0 ≤ n) :
    told most f buf' n = (told most f buf (n + 1)).eraseIdx k0 := by
  apply List.ext_getElem
  · rw [List.length_eraseIdx]
    simp
    omega
  · intro j h1 h2
    have hj : j < n := by simpa using h1
    rw [List.getElem_eraseIdx]
    have hs := h j (by omega)
    simp only [told, List.getElem_map, List.getElem_range]
    rw [hs]
    by_cases c : j < k0
    · rw [dif_pos c, if_neg (by omega)]
    · rw [dif_neg c, if_pos (by omega)]

def RemRel (p lb most f n k0 : Nat) (buf : List Int) (w0 : World) (S : Fp) (i : Value) (wr : World) : Prop :=
  ∃ (k : Nat) (buf' : List Int), k0 ≤ k ∧ k < n ∧ i = .int .i64 k ∧ buf'.length = most ∧ Shifted (nth most f buf) (nth most f buf') k0 k n ∧ Sat (ringParts p lb most f n buf') wr S ∧ Fr S S w0 wr

theorem Remove_none (p most : Nat) (q : List Int) (x : Int) (hq : x ∉ q) :
    Tri Try.prog 19 #[.pointer (some ⟨p, 0, none⟩), .int .i64 x] [ringHP p most q] (fun e L => e = .returned (.bool false) ∧ L = [ringHP p most q]) := by
  refine ring_quiet fun w lb f n buf hn hR hqe => ?_
  have HF := Find_any hR x
  rw [firstOf_none] at HF
  · clear hqe hn hq
    go_enter Try.func19, Try.ntmps19
    go_wp2_with (go_at_call 28; refine HF.mono ?_; rintro e w' ⟨rfl, m, rfl⟩)
    go_ret
    exact ⟨rfl, _, rfl⟩
  · intro j hj he
    apply hq
    rw [hqe]
    exact List.mem_map.2 ⟨j, List.mem_range.2 hj, he⟩

set_option maxHeartbeats 400000 in
theorem Remove_some (p most : Nat) (q : List Int) (x : Int) (k0 : Nat) (hk0 : k0 < q.length) (hx : q.getD k0 0 = x) (hno : ∀ j, j < k0 → q.getD j 0 ≠ x) :
    Tri Try.prog 19 #[.pointer (some ⟨p, 0, none⟩), .int .i64 x] [ringHP p most q] (fun e L => e = .returned (.bool true) ∧ L = [ringHP p most (q.eraseIdx k0)]) := by
  refine ring_tri fun w S lb f n buf hn hO => ?_
  rw [hn] at hk0
  have HF := Find_any hO.rr x
  rw [firstOf_some hk0 (by rw [← hx, hO.eq, told_getD hk0]) (fun j hj => by have := hno j hj; rw [hO.eq, told_getD (by omega)] at this; exact this)] at HF
  have hS := hO.sat
  have sp := hO.sp
  have sl := hO.sl
  obtain ⟨-, -, -, -, h1, h2, h3, h4, h5⟩ := hO.rr
  obtain ⟨z, rfl⟩ : ∃ z, n = z + 1 := ⟨n - 1, by omega⟩
  have HE := Lib.hid hO.eq
  have H5 := Lib.hid h5
  clear hx hno hn hO h5
  go_enter Try.func19, Try.ntmps19
  go_wp2_with (go_at_call 28; refine HF.mono ?_; rintro e w' ⟨rfl, m, rfl⟩)
  clear HF
  go_loopw [5] (fun i wr => RemRel p lb most f (z + 1) k0 buf w S i wr) (fun i _ => z + 1 - (intOf i).toNat)
  case atStart => exact ⟨k0, buf, Nat.le_refl _, hk0, rfl, H5.out, fun j hj => by rw [if_neg (by omega)], hS.drewN _, (Fr.refl S w).drewN _⟩
  case round =>
    clear hS
    obtain ⟨k, buf', hk1, hk2, rfl, hb5, hsh, hS, hF⟩ := hrel
    obtain ⟨hR, hne, fp, fl, -, -⟩ := RR.of (l := []) (by simpa using hS) hb5 h1 h2 h3 h4
    have hne' : lb ≠ p := Ne.symm hne
    have HX : Hid (buf'.length = most ∧ Shifted (nth most f buf) (nth most f buf') k0 k (z + 1)) := ⟨hb5, hsh⟩
    clear hb5 hsh
    by_cases hlt : k + 1 < z + 1
    · obtain ⟨q1, hq1⟩ : ∃ q, (f + k) % most = q := ⟨_, rfl⟩
      obtain ⟨q2, hq2⟩ : ∃ q, (f + (k + 1)) % most = q := ⟨_, rfl⟩
      have HA1 := fun k' => at_any (hR.drewN k') k q1 (by omega) hq1
      have HA2 := fun k' => at_any (hR.drewN k') (k + 1) q2 (by omega) hq2
      have E1 : Hid (IntKind.i64.wrap ((k : Int) + 1) = ((k + 1 : Nat) : Int)) := by
        have := IntWalk.i64_in ((k : Int) + 1) (by omega)
        show IntKind.i64.wrap ((k : Int) + 1) = ((k + 1 : Nat) : Int)
        rw [this]
        omega
      have l1 : q1 < most := by rw [← hq1]; exact Nat.mod_lt _ h1
      have l2 : q2 < most := by rw [← hq2]; exact Nat.mod_lt _ h1
      obtain ⟨c0, c1, c2, cb, -, -, -, -, -⟩ := hR
      have b1 := cb q1 l1
      have b2 := cb q2 l2
      obtain ⟨v1, hv1⟩ : ∃ v, buf'.getD q1 0 = v := ⟨_, rfl⟩
      obtain ⟨v2, hv2⟩ : ∃ v, buf'.getD q2 0 = v := ⟨_, rfl⟩
      rw [hv1] at b1
      rw [hv2] at b2
      have f0 := fl q1
      have n12 : q1 ≠ q2 := by
        rw [← hq1, ← hq2, pos_eq h3 (by omega), pos_eq h3 (by omega)]
        split <;> split <;> omega
      have HQ : Hid ((f + k) % most = q1 ∧ nth most f buf' (k + 1) = v2) := ⟨hq1, by unfold nth; rw [hq2]; exact hv2⟩
      clear hq1 hq2 cb hv1 hv2 fp fl
      have l1' : (q1 : Int) < (most : Int) := by omega
      have g1' : (0 : Int) ≤ (q1 : Int) := by omega
      have l2' : (q2 : Int) < (most : Int) := by omega
      have g2' : (0 : Int) ≤ (q2 : Int) := by omega
      go_wp2_with fail
      go_region_held3 (fun w' => w'.cell? ⟨p, 0, none⟩ = some (.slice (some ⟨lb, 0, none⟩) most most) ∧ w'.cell? ⟨p, 2, none⟩ = some (.int .i64 ((z + 1 : Nat) : Int)) ∧ w'.cell? ⟨lb, q2, none⟩ = some (.int .i64 v2)) (simp [*, World.cell?_setCell_far, cell_set_off])
        (first | (go_at_call_of 24 (Value.int IntKind.i64 (k : Int)); refine (HA1 _).mono ?_; rintro e w' ⟨rfl, m1, rfl⟩) | (go_at_call 24; rw [E1.out]; refine (HA2 _).mono ?_; rintro e w' ⟨rfl, m2, rfl⟩))
      go_wp2
      go_roundw
      case rel =>
        obtain ⟨hb5, hsh⟩ := HX.out
        have H1 := (hS.swap.set q1 (.int .i64 v2)).swap.drewN (1 + m1 + m2)
        rw [ints_set] at H1
        refine ⟨k + 1, buf'.set q1 v2, by omega, by omega, by go_num, by simpa using hb5, ?_, H1, (hF.setCell sl).drewN _⟩
        have := shifted_step hsh hb5 h3 h4 hk1 hlt
        rw [HQ.out.1, HQ.out.2] at this
        exact this
      case measure => simp [intOf]; omega
    · have hkz : k = z := by omega
      subst hkz
      have f1 := fp 2
      obtain ⟨c0, c1, c2, cb, -, -, -, -, -⟩ := hR
      clear cb
      go_wp2
      go_ret
      obtain ⟨hb5, hsh⟩ := HX.out
      have H1 := hS.set 2 (.int .i64 (k : Int))
      refine ⟨_, S, ⟨rfl, rfl⟩, sat_ring (lb := lb) (n := k) (buf := buf') (f := f) (by simpa [ringParts] using H1) hb5 h1 h2 h3 (by omega) ?_, hF.setCell sp⟩
      rw [HE.out, told_eraseIdx hsh hk1]

end Go.Proofs.Yteholmfgefhgeaa
