/- The package ring: contracts on what a queue holds. -/
import Derived.Test.YteholmfgefhgeaaRingP
import Derived.Deep.RegionHeld3
import Derived.Deep.DeepCutAuto
namespace Go.Proofs.Yteholmfgefhgeaa
open Go.RowKit Go.Sep

abbrev ints (l : List Int) : Array Value := (l.map (Value.int .i64)).toArray

/-- A queue in memory: for most numbers; it holds q. -/
def ringHP (p most : Nat) (q : List Int) : HP :=
  exs (fun x : Nat × Nat × List Int => x.2.2.length = most ∧ 1 ≤ most ∧ most ≤ 4096 ∧ x.2.1 < most ∧ q.length ≤ most ∧ q = told most x.2.1 x.2.2 q.length)
    (fun x => [pt p #[.slice (some ⟨x.1, 0, none⟩) most most, .int .i64 x.2.1, .int .i64 q.length] 44, pt x.1 (ints x.2.2) 3])

abbrev ringParts (p lb most f n : Nat) (buf : List Int) : List HP :=
  [pt p #[.slice (some ⟨lb, 0, none⟩) most most, .int .i64 f, .int .i64 n] 44, pt lb (ints buf) 3]

theorem RR.of {w : World} {S : Fp} {p lb most f n : Nat} {buf : List Int} {l : List HP} (h : Sat (ringParts p lb most f n buf ++ l) w S) (h5 : buf.length = most) (h1 : 1 ≤ most) (h2 : most ≤ 4096) (h3 : f < most) (h4 : n ≤ most) :
    RR w p lb most f n buf ∧ p ≠ lb ∧ (∀ o, w.frozen? ⟨p, o, none⟩ = false) ∧ (∀ o, w.frozen? ⟨lb, o, none⟩ = false) ∧ S p ∧ S lb := by
  have b0 := h.block (by simp [ringParts]; exact .inl rfl)
  have b1 := h.block (b := lb) (by simp [ringParts]; exact .inr (.inl rfl))
  refine ⟨⟨?_, ?_, ?_, ?_, h1, h2, h3, h4, h5⟩, Sat.ne h (List.mem_append_left _ (by simp; exact rfl)), fun o => free_of_block b0, fun o => free_of_block b1, h.owns, h.swap.owns⟩
  · rw [cell_of_block b0]; rfl
  · rw [cell_of_block b0]; rfl
  · rw [cell_of_block b0]; rfl
  · intro j hj
    rw [cell_of_block b1]
    simp [List.getD, h5, hj]

theorem ints_set (buf : List Int) (k : Nat) (x : Int) : (ints buf).setIfInBounds k (.int .i64 x) = ints (buf.set k x) := by simp [ints, List.map_set]

theorem sat_ring {w : World} {S : Fp} {p lb most f n : Nat} {buf q : List Int} (h : Sat (ringParts p lb most f n buf) w S) (h5 : buf.length = most) (h1 : 1 ≤ most) (h2 : most ≤ 4096) (h3 : f < most) (h4 : n ≤ most) (hq : q = told most f buf n) : Sat [ringHP p most q] w S := by
  subst hq
  refine Sat.fold (lb, f, buf) ⟨h5, h1, h2, h3, by simpa using h4, by simp⟩ ?_
  simpa using h

theorem sat_ring_l {w : World} {S : Fp} {p lb most f n : Nat} {buf q : List Int} {l : List HP} (h : Sat (ringParts p lb most f n buf ++ l) w S) (h5 : buf.length = most) (h1 : 1 ≤ most) (h2 : most ≤ 4096) (h3 : f < most) (h4 : n ≤ most) (hq : q = told most f buf n) : Sat (ringHP p most q :: l) w S := by
  subst hq
  refine Sat.fold (lb, f, buf) ⟨h5, h1, h2, h3, by simpa using h4, by simp⟩ ?_
  simpa using h

structure RO (w : World) (S : Fp) (p lb most f n : Nat) (buf q : List Int) : Prop where
  rr : RR w p lb most f n buf
  ne : p ≠ lb
  fp : ∀ o, w.frozen? ⟨p, o, none⟩ = false
  fl : ∀ o, w.frozen? ⟨lb, o, none⟩ = false
  sp : S p
  sl : S lb
  eq : q = told most f buf n
  sat : Sat (ringParts p lb most f n buf) w S

theorem ring_tri {P : Program} {fn : FuncId} {args : Array Value} {p most : Nat} {q : List Int} {Q : Ending → List HP → Prop}
    (h : ∀ (w : World) (S : Fp) (lb f n : Nat) (buf : List Int), q.length = n → RO w S p lb most f n buf q → Calls P fn args w fun e w' => ∃ L S', Q e L ∧ Sat L w' S' ∧ Fr S S' w w') :
    Tri P fn args [ringHP p most q] Q := by
  intro w S hS
  obtain ⟨⟨lb, f, buf⟩, ⟨h5, h1, h2, h3, h4, hqe⟩, hS⟩ := hS.unfold
  simp only [List.append_nil] at hS
  obtain ⟨hR, hne, fp, fl, sp, sl⟩ := RR.of (l := []) hS h5 h1 h2 h3 h4
  exact h w S lb f q.length buf rfl ⟨hR, hne, fp, fl, sp, sl, hqe, hS⟩

/-- A quiet call. -/
theorem ring_quiet {P : Program} {fn : FuncId} {args : Array Value} {p most : Nat} {q : List Int} {v : Value}
    (h : ∀ (w : World) (lb f n : Nat) (buf : List Int), q.length = n → RR w p lb most f n buf → q = told most f buf n → Calls P fn args w (Quiet w v)) :
    Tri P fn args [ringHP p most q] (fun e L => e = .returned v ∧ L = [ringHP p most q]) := by
  intro w S hS
  obtain ⟨⟨lb, f, buf⟩, ⟨h5, h1, h2, h3, h4, hqe⟩, hS1⟩ := hS.unfold
  simp only [List.append_nil] at hS1
  obtain ⟨hR, hne, fp, fl, sp, sl⟩ := RR.of (l := []) hS1 h5 h1 h2 h3 h4
  refine (h w lb f q.length buf rfl hR hqe).mono ?_
  rintro e w' ⟨rfl, m, rfl⟩
  exact ⟨_, S, ⟨rfl, rfl⟩, hS.drewN m, (Fr.refl S w).drewN m⟩

theorem Push_room (p most : Nat) (q : List Int) (x : Int) (hq : q.length < most) :
    Tri Try.prog 11 #[.pointer (some ⟨p, 0, none⟩), .int .i64 x] [ringHP p most q] (fun e L => e = .returned (.int .i64 0) ∧ L = [ringHP p most (q ++ [x])]) := by
  refine ring_tri fun w S lb f n buf hn hO => ?_
  rw [hn] at hq
  have HM := room_any hO.rr
  rw [if_neg (by omega)] at HM
  obtain ⟨k, hk⟩ : ∃ k, (f + n) % most = k := ⟨_, rfl⟩
  have HA := fun k' => at_any (hO.rr.drewN k') n k (by omega) hk
  have f0 := hO.fl k
  have f1 := hO.fp 2
  have hne' : lb ≠ p := Ne.symm hO.ne
  obtain ⟨c0, c1, c2, cb, h1, h2, h3, h4, h5⟩ := hO.rr
  have hlt : k < most := by rw [← hk]; exact Nat.mod_lt _ h1
  have hb := cb k hlt
  obtain ⟨v, hv⟩ : ∃ v, buf.getD k 0 = v := ⟨_, rfl⟩
  rw [hv] at hb
  have HK := Lib.hid hk
  clear cb h5 hv hk hn
  have hlt' : (k : Int) < (most : Int) := by omega
  have hge' : (0 : Int) ≤ (k : Int) := by omega
  go_enter Try.func11, Try.ntmps11
  go_wp2_with (go_at_call 23; refine HM.mono ?_; rintro e w' ⟨rfl, m, rfl⟩)
  go_region_held3 (fun w' => w'.cell? ⟨p, 0, none⟩ = some (.slice (some ⟨lb, 0, none⟩) most most) ∧ w'.cell? ⟨p, 2, none⟩ = some (.int .i64 n)) (go_keep)
    (first | (go_at_call 24; refine (HA (_ + 1)).mono ?_; rintro e w' ⟨rfl, m', rfl⟩))
  go_wp2
  go_ret
  have H1 := (((hO.sat.drewN (m + 1 + m')).swap.set k (.int .i64 x)).swap.set 2 (.int .i64 ((n : Int) + 1)))
  rw [ints_set] at H1
  have h5 := hO.rr.h5
  refine ⟨_, S, ⟨rfl, rfl⟩, sat_ring (lb := lb) (n := n + 1) (buf := buf.set k x) (f := f) (by simpa [ringParts] using H1) (by simpa using h5) h1 h2 h3 (by omega) ?_, (((Fr.refl S w).drewN _).setCell hO.sl).setCell hO.sp⟩
  rw [hO.eq, ← HK.out, told_push x h5 h3 hq]

theorem Push_full (p most : Nat) (q : List Int) (x : Int) (hq : q.length = most) :
    Tri Try.prog 11 #[.pointer (some ⟨p, 0, none⟩), .int .i64 x] [ringHP p most q] (fun e L => e = .returned (.int .i64 3) ∧ L = [ringHP p most q]) := by
  refine ring_quiet fun w lb f n buf hn hR hqe => ?_
  have HM := room_any hR
  rw [if_pos (by omega)] at HM
  clear hqe hn hq
  go_enter Try.func11, Try.ntmps11
  go_wp2_with (go_at_call 23; refine HM.mono ?_; rintro e w' ⟨rfl, m, rfl⟩)
  go_ret
  exact ⟨rfl, _, rfl⟩

theorem Front_full (p most : Nat) (q : List Int) (x : Int) (hq : q.length = most) :
    Tri Try.prog 14 #[.pointer (some ⟨p, 0, none⟩), .int .i64 x] [ringHP p most q] (fun e L => e = .returned (.int .i64 3) ∧ L = [ringHP p most q]) := by
  refine ring_quiet fun w lb f n buf hn hR hqe => ?_
  have HM := room_any hR
  rw [if_pos (by omega)] at HM
  clear hqe hn hq
  go_enter Try.func14, Try.ntmps14
  go_wp2_with (go_at_call 23; refine HM.mono ?_; rintro e w' ⟨rfl, m, rfl⟩)
  go_ret
  exact ⟨rfl, _, rfl⟩

theorem Front_room (p most : Nat) (q : List Int) (x : Int) (hq : q.length < most) :
    Tri Try.prog 14 #[.pointer (some ⟨p, 0, none⟩), .int .i64 x] [ringHP p most q] (fun e L => e = .returned (.int .i64 0) ∧ L = [ringHP p most (x :: q)]) := by
  refine ring_tri fun w S lb f n buf hn hO => ?_
  rw [hn] at hq
  have HM := room_any hO.rr
  rw [if_neg (by omega)] at HM
  obtain ⟨k, hk⟩ : ∃ k, (f + (most - 1)) % most = k := ⟨_, rfl⟩
  have HA := fun k' => at_any (hO.rr.drewN k') (most - 1) k (by omega) hk
  have f0 := hO.fl k
  have f1 := hO.fp 2
  have f2 := hO.fp 1
  have hne' : lb ≠ p := Ne.symm hO.ne
  have hne := hO.ne
  obtain ⟨c0, c1, c2, cb, h1, h2, h3, h4, h5⟩ := hO.rr
  have hlt : k < most := by rw [← hk]; exact Nat.mod_lt _ h1
  have hb := cb k hlt
  obtain ⟨v, hv⟩ : ∃ v, buf.getD k 0 = v := ⟨_, rfl⟩
  rw [hv] at hb
  have HK := Lib.hid hk
  clear cb h5 hv hk hn
  have hlt' : (k : Int) < (most : Int) := by omega
  have hge' : (0 : Int) ≤ (k : Int) := by omega
  have e1 : ((most : Int) - 1) = ((most - 1 : Nat) : Int) := by omega
  have E1 := Lib.hid e1
  clear e1
  go_enter Try.func14, Try.ntmps14
  go_wp2_with first
    | (go_at_call 23; refine HM.mono ?_; rintro e w' ⟨rfl, m, rfl⟩)
    | (go_at_call 24; rw [E1.out]; refine (HA _).mono ?_; rintro e w' ⟨rfl, m', rfl⟩)
  obtain ⟨W, hW⟩ : ∃ W, W = (w.drewN (m + m')).setCell ⟨p, 1, none⟩ (.int .i64 k) := ⟨_, rfl⟩
  have h5 := hO.rr.h5
  have H1 : Sat (ringParts p lb most k n buf) W S := by rw [hW]; exact (hO.sat.drewN (m + m')).set 1 (.int .i64 k)
  have F1 : Fr S S w W := by rw [hW]; exact ((Fr.refl S w).drewN _).setCell hO.sp
  rw [← hW]
  obtain ⟨hR', -, fp, fl, -, -⟩ := RR.of (l := []) (by simpa using H1) h5 h1 h2 hlt h4
  clear hW c0 c1 c2 hb f0 f1 f2
  have f0 := fl k
  have f1 := fp 2
  obtain ⟨c0, c1, c2, cb, -, -, -, -, -⟩ := hR'
  have hb := cb k hlt
  clear cb fp fl h5
  go_region_held3 (fun w' => w'.cell? ⟨p, 0, none⟩ = some (.slice (some ⟨lb, 0, none⟩) most most) ∧ w'.cell? ⟨p, 1, none⟩ = some (.int .i64 k) ∧ w'.cell? ⟨p, 2, none⟩ = some (.int .i64 n)) (go_keep) (fail)
  go_wp2
  go_ret
  have H2 := ((H1.swap.set k (.int .i64 x)).swap.set 2 (.int .i64 ((n : Int) + 1))).drew
  rw [ints_set] at H2
  have h5 := hO.rr.h5
  refine ⟨_, S, ⟨rfl, rfl⟩, sat_ring (lb := lb) (n := n + 1) (buf := buf.set k x) (f := k) (by simpa [ringParts] using H2) (by simpa using h5) h1 h2 hlt (by omega) ?_, ((F1.setCell hO.sl).setCell hO.sp).drew⟩
  rw [hO.eq, ← HK.out, told_front x h5 h3 hq]

theorem Pop_empty (p most : Nat) (q : List Int) (hq : q = []) :
    Tri Try.prog 12 #[.pointer (some ⟨p, 0, none⟩)] [ringHP p most q] (fun e L => e = .returned (.tuple #[.int .i64 0, .bool false]) ∧ L = [ringHP p most q]) := by
  refine ring_quiet fun w lb f n buf hn hR hqe => ?_
  have HA := At_out hR 0 (.inr (by rw [← hn, hq]; simp))
  clear hqe hn hq hR
  go_enter Try.func12, Try.ntmps12
  go_wp2_with (go_at_call 25; refine HA.mono ?_; rintro e w' ⟨rfl, m, rfl⟩)
  go_ret2
  exact ⟨rfl, _, rfl⟩

theorem Back_empty (p most : Nat) (q : List Int) (hq : q = []) :
    Tri Try.prog 17 #[.pointer (some ⟨p, 0, none⟩)] [ringHP p most q] (fun e L => e = .returned (.tuple #[.int .i64 0, .bool false]) ∧ L = [ringHP p most q]) := by
  refine ring_quiet fun w lb f n buf hn hR hqe => ?_
  have HA := At_out hR (-1) (.inl (by omega))
  have HL := len_any hR
  have e0 : n = 0 := by rw [← hn, hq]; rfl
  subst e0
  clear hqe hn hq hR
  go_enter Try.func17, Try.ntmps17
  go_wp2_with first
    | (go_at_call 27; refine HL.mono ?_; rintro e w' ⟨rfl, rfl⟩)
    | (go_at_call 25; refine HA.mono ?_; rintro e w' ⟨rfl, m, rfl⟩)
  go_ret2
  exact ⟨rfl, _, rfl⟩

theorem Pop_some (p most : Nat) (q : List Int) (x : Int) :
    Tri Try.prog 12 #[.pointer (some ⟨p, 0, none⟩)] [ringHP p most (x :: q)] (fun e L => e = .returned (.tuple #[.int .i64 x, .bool true]) ∧ L = [ringHP p most q]) := by
  refine ring_tri fun w S lb f n buf hn hO => ?_
  obtain ⟨n, rfl⟩ : ∃ k, n = k + 1 := ⟨q.length, by rw [← hn]; rfl⟩
  have HP := At_in hO.rr 0 (by omega)
  have hx : nth most f buf 0 = x := by rw [← told_getD (n := n + 1) (by omega), ← hO.eq]; rfl
  rw [hx] at HP
  clear hx hn
  obtain ⟨k, hk⟩ : ∃ k, (f + 1) % most = k := ⟨_, rfl⟩
  have HA := fun k' => at_any (hO.rr.drewN k') 1 k hO.rr.h1 hk
  have f1 := hO.fp 2
  have f2 := hO.fp 1
  obtain ⟨c0, c1, c2, cb, h1, h2, h3, h4, h5⟩ := hO.rr
  have hlt : k < most := by rw [← hk]; exact Nat.mod_lt _ h1
  have HK := Lib.hid hk
  clear cb h5 hk
  go_enter Try.func12, Try.ntmps12
  go_wp2_with first
    | (go_at_call 25; refine HP.mono ?_; rintro e w' ⟨rfl, m, rfl⟩)
    | (go_at_call 24; refine (HA _).mono ?_; rintro e w' ⟨rfl, m', rfl⟩)
  go_ret2
  have H1 := ((hO.sat.drewN (m + m')).set 1 (.int .i64 k)).set 2 (.int .i64 (n : Int))
  have h5 := hO.rr.h5
  refine ⟨_, S, ⟨rfl, rfl⟩, sat_ring (lb := lb) (n := n) (buf := buf) (f := k) (by simpa [ringParts] using H1) h5 h1 h2 hlt (by omega) ?_, (((Fr.refl S w).drewN _).setCell hO.sp).setCell hO.sp⟩
  rw [← HK.out, told_pop h3 h4, ← hO.eq]
  rfl

theorem Back_some (p most : Nat) (q : List Int) (x : Int) :
    Tri Try.prog 17 #[.pointer (some ⟨p, 0, none⟩)] [ringHP p most (q ++ [x])] (fun e L => e = .returned (.tuple #[.int .i64 x, .bool true]) ∧ L = [ringHP p most q]) := by
  refine ring_tri fun w S lb f n buf hn hO => ?_
  obtain ⟨n, rfl⟩ : ∃ k, n = k + 1 := ⟨q.length, by rw [← hn]; simp⟩
  have HL := len_any hO.rr
  have HP := At_in hO.rr n (by omega)
  have hx : nth most f buf n = x := by
    rw [← told_getD (n := n + 1) (by omega), ← hO.eq]
    have : n = q.length := by simpa using hn.symm
    subst this
    simp [List.getD]
  rw [hx] at HP
  clear hx hn
  have f1 := hO.fp 2
  obtain ⟨c0, c1, c2, cb, h1, h2, h3, h4, h5⟩ := hO.rr
  clear cb h5
  go_enter Try.func17, Try.ntmps17
  go_wp2_with first
    | (go_at_call 27; refine HL.mono ?_; rintro e w' ⟨rfl, rfl⟩)
    | (go_at_call 25; refine HP.mono ?_; rintro e w' ⟨rfl, m, rfl⟩)
  go_ret2
  have H1 := (hO.sat.drewN m).set 2 (.int .i64 (n : Int))
  have h5 := hO.rr.h5
  refine ⟨_, S, ⟨rfl, rfl⟩, sat_ring (lb := lb) (n := n) (buf := buf) (f := f) (by simpa [ringParts] using H1) h5 h1 h2 h3 (by omega) ?_, ((Fr.refl S w).drewN _).setCell hO.sp⟩
  rw [told_back, ← hO.eq]
  simp

end Go.Proofs.Yteholmfgefhgeaa
