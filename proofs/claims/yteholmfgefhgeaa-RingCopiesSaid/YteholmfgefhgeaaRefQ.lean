/- The document's queue: contracts. -/
import Derived.Test.YteholmfgefhgeaaRingE
namespace Go.Proofs.Yteholmfgefhgeaa
open Go.RowKit Go.Sep

/-- The j-th. -/
def el (q : List Int) (j : Nat) : Int := q.getD j 0

/-- The document's queue in memory. -/
def refHP (p most : Nat) (q : List Int) : HP :=
  exs (fun _ : Option Addr × Nat => q.length ≤ most ∧ most ≤ 4096)
    (fun x => [pt p #[.int .i64 most, .slice x.1 q.length x.2] 34, slHP x.1 q.length x.2 3 1 (q.map (Value.int .i64))])

abbrev refParts (p most : Nat) (ao : Option Addr) (cap : Nat) (q : List Int) : List HP :=
  [pt p #[.int .i64 most, .slice ao q.length cap] 34, slHP ao q.length cap 3 1 (q.map (Value.int .i64))]

structure RF (w : World) (p most : Nat) (ao : Option Addr) (cap : Nat) (q : List Int) : Prop where
  c0 : w.cell? ⟨p, 0, none⟩ = some (.int .i64 most)
  c1 : w.cell? ⟨p, 1, none⟩ = some (.slice ao q.length cap)
  cb : ∀ j, j < q.length → ∃ g, ao = some ⟨g, 0, none⟩ ∧ w.cell? ⟨g, j, none⟩ = some (.int .i64 (el q j))
  h1 : q.length ≤ most
  h2 : most ≤ 4096
  h3 : q.length ≤ cap
  h4 : cap ≤ 9223372036854775807

theorem RF.of {w : World} {S : Fp} {p most : Nat} {ao : Option Addr} {cap : Nat} {q : List Int} {l : List HP} (h : Sat (refParts p most ao cap q ++ l) w S) (h1 : q.length ≤ most) (h2 : most ≤ 4096) :
    RF w p most ao cap q ∧ (∀ o, w.frozen? ⟨p, o, none⟩ = false) ∧ S p := by
  have b0 := h.block (by simp [refParts]; exact .inl rfl)
  have hs := h.swap
  obtain ⟨-, l1, l2⟩ := sl_length hs
  refine ⟨⟨?_, ?_, ?_, h1, h2, l1, by simpa [maxLen] using l2⟩, fun o => free_of_block b0, h.owns⟩
  · rw [cell_of_block b0]; rfl
  · rw [cell_of_block b0]; rfl
  · intro j hj
    obtain ⟨g, rfl⟩ := sl_some hs (by omega)
    refine ⟨g, rfl, sl_cells hs j _ ?_⟩
    simp [el, List.getD, hj]

theorem sat_ref {w : World} {S : Fp} {p most : Nat} {ao : Option Addr} {cap : Nat} {q : List Int} {l : List HP} (h : Sat (refParts p most ao cap q ++ l) w S) (h1 : q.length ≤ most) (h2 : most ≤ 4096) : Sat (refHP p most q :: l) w S :=
  Sat.fold (ao, cap) ⟨h1, h2⟩ (by simpa using h)

theorem ref_tri {P : Program} {fn : FuncId} {args : Array Value} {p most : Nat} {q : List Int} {Q : Ending → List HP → Prop}
    (h : ∀ (w : World) (S : Fp) (ao : Option Addr) (cap : Nat), RF w p most ao cap q → Sat (refParts p most ao cap q) w S → (∀ o, w.frozen? ⟨p, o, none⟩ = false) → S p →
      Calls P fn args w fun e w' => ∃ L S', Q e L ∧ Sat L w' S' ∧ Fr S S' w w') :
    Tri P fn args [refHP p most q] Q := by
  intro w S hS
  obtain ⟨⟨ao, cap⟩, ⟨h1, h2⟩, hS⟩ := hS.unfold
  simp only [List.append_nil] at hS
  obtain ⟨hR, fp, sp⟩ := RF.of (l := []) hS h1 h2
  exact h w S ao cap hR hS fp sp

theorem ref_quiet {P : Program} {fn : FuncId} {args : Array Value} {p most : Nat} {q : List Int} {v : Value}
    (h : ∀ (w : World) (ao : Option Addr) (cap : Nat), RF w p most ao cap q → Calls P fn args w (Quiet w v)) :
    Tri P fn args [refHP p most q] (fun e L => e = .returned v ∧ L = [refHP p most q]) := by
  intro w S hS
  obtain ⟨⟨ao, cap⟩, ⟨h1, h2⟩, hS1⟩ := hS.unfold
  simp only [List.append_nil] at hS1
  obtain ⟨hR, fp, sp⟩ := RF.of (l := []) hS1 h1 h2
  refine (h w ao cap hR).mono ?_
  rintro e w' ⟨rfl, m, rfl⟩
  exact ⟨_, S, ⟨rfl, rfl⟩, hS.drewN m, (Fr.refl S w).drewN m⟩

variable {w : World} {p most : Nat} {ao : Option Addr} {cap : Nat} {q : List Int}

theorem RAt_in (h : RF w p most ao cap q) (i : Nat) (hi : i < q.length) :
    Calls Try.prog 31 #[.pointer (some ⟨p, 0, none⟩), .int .i64 i] w (Quiet w (.tuple #[.int .i64 (el q i), .bool true])) := by
  obtain ⟨g, rfl, hb⟩ := h.cb i hi
  obtain ⟨c0, c1, -, h1, h2, h3, h4⟩ := h
  obtain ⟨n, hn⟩ : ∃ n, q.length = n := ⟨_, rfl⟩
  obtain ⟨v, hv⟩ : ∃ v, el q i = v := ⟨_, rfl⟩
  rw [hn] at c1 h1 h3 hi
  rw [hv] at hb ⊢
  clear hn hv
  have hi' : (i : Int) < (n : Int) := by omega
  have hi0 : (0 : Int) ≤ (i : Int) := by omega
  go_enter Try.func31, Try.ntmps31
  go_wp2
  go_ret2
  exact ⟨rfl, 0, rfl⟩

theorem RAt_out (h : RF w p most ao cap q) (i : Int) (hi : i < 0 ∨ (q.length : Int) ≤ i) :
    Calls Try.prog 31 #[.pointer (some ⟨p, 0, none⟩), .int .i64 i] w (Quiet w (.tuple #[.int .i64 0, .bool false])) := by
  obtain ⟨c0, c1, -, h1, h2, h3, h4⟩ := h
  obtain ⟨n, hn⟩ : ∃ n, q.length = n := ⟨_, rfl⟩
  rw [hn] at c1 h1 h3 hi
  clear hn
  by_cases h0 : i < 0
  · go_enter Try.func31, Try.ntmps31
    go_wp2
    go_ret2
    exact ⟨rfl, 0, rfl⟩
  · have h0' : 0 ≤ i := by omega
    have hn : (n : Int) ≤ i := by omega
    go_enter Try.func31, Try.ntmps31
    go_wp2
    go_ret2
    exact ⟨rfl, 0, rfl⟩

def RFindRel (q : List Int) (x : Int) (i : Value) : Prop := ∃ k : Nat, k ≤ q.length ∧ i = .int .i64 k ∧ ∀ j, j < k → el q j ≠ x

theorem RFind_any (h : RF w p most ao cap q) (x : Int) :
    Calls Try.prog 29 #[.pointer (some ⟨p, 0, none⟩), .int .i64 x] w (Quiet w (.int .i64 (firstOf (el q) q.length x))) := by
  obtain ⟨c0, c1, cb, h1, h2, h3, h4⟩ := h
  have HB := Lib.hid cb
  obtain ⟨n, hn⟩ : ∃ n, q.length = n := ⟨_, rfl⟩
  have HN := Lib.hid hn
  rw [hn] at c1 h1 h3 ⊢
  clear cb hn
  go_enter Try.func29, Try.ntmps29
  go_wp2
  go_loop [12] (fun i => RFindRel q x i) (fun i => n - (intOf i).toNat)
  case atStart => exact ⟨0, by omega, rfl, by omega⟩
  case round =>
    obtain ⟨k, hk, rfl, hno⟩ := hrel
    rw [HN.out] at hk
    have HNo := Lib.hid hno
    clear hno
    by_cases hlt : k < n
    · obtain ⟨g, rfl, hb⟩ := HB.out k (by rw [HN.out]; exact hlt)
      obtain ⟨v, hv⟩ : ∃ v, el q k = v := ⟨_, rfl⟩
      rw [hv] at hb
      have HV := Lib.hid hv
      clear hv
      have hlt' : (k : Int) < (n : Int) := by omega
      have hk0 : (0 : Int) ≤ (k : Int) := by omega
      by_cases hx : x = v
      · have hx' : (x == v) = true := by simp [hx]
        have HX := Lib.hid hx
        clear hx
        go_wp2
        go_ret
        exact ⟨by rw [firstOf_some hlt (HV.out.trans HX.out.symm) HNo.out]; rfl, 0, rfl⟩
      · have hx' : (x == v) = false := by simp [hx]
        have HX := Lib.hid hx
        clear hx
        go_wp2
        go_round
        case rel =>
          refine ⟨k + 1, by rw [HN.out]; omega, by go_num, ?_⟩
          intro j hj
          rcases Nat.lt_or_ge j k with hj' | hj'
          · exact HNo.out j hj'
          · obtain rfl : j = k := by omega
            rw [HV.out]
            exact Ne.symm HX.out
        case measure => simp [intOf]; omega
    · have hkn : k = n := by omega
      subst hkn
      go_wp2
      go_ret
      exact ⟨by rw [firstOf_none HNo.out]; rfl, 0, rfl⟩

end Go.Proofs.Yteholmfgefhgeaa
