/- Ints: are two lists the very same? -/
import Derived.Test.YteholmfgefhgeaaRefQ
namespace Go.Proofs.Yteholmfgefhgeaa
open Go.RowKit Go.Sep

/-- A slice of numbers that can be read. -/
structure Reads (w : World) (ao : Option Addr) (n cap : Nat) (q : List Int) : Prop where
  len : q.length = n
  le : n ≤ cap
  cap : cap ≤ 9223372036854775807
  cell : ∀ j, j < n → ∃ g, ao = some ⟨g, 0, none⟩ ∧ w.cell? ⟨g, j, none⟩ = some (.int .i64 (el q j))

theorem Reads.of {w : World} {S : Fp} {l : List HP} {ao : Option Addr} {n cap : Nat} {q : List Int} {E : TypeId} (h : Sat (slHP ao n cap E 1 (q.map (Value.int .i64)) :: l) w S) : Reads w ao n cap q := by
  obtain ⟨h1, h2, h3⟩ := sl_length h
  have hl : q.length = n := by simpa using h1
  refine ⟨hl, h2, by simpa [maxLen] using h3, fun j hj => ?_⟩
  obtain ⟨g, rfl⟩ := sl_some h (by omega)
  refine ⟨g, rfl, sl_cells h j _ ?_⟩
  simp [el, List.getD, hl, hj]

theorem Reads.of_mem {w : World} {S : Fp} {l : List HP} {ao : Option Addr} {n cap : Nat} {q : List Int} {E : TypeId} (h : Sat l w S) (hm : slHP ao n cap E 1 (q.map (Value.int .i64)) ∈ l) : Reads w ao n cap q := by
  obtain ⟨S1, h1⟩ := h.one hm
  exact Reads.of h1

theorem ref_reads {w : World} {S : Fp} {l : List HP} {p most : Nat} {q : List Int} (h : Sat l w S) (hm : refHP p most q ∈ l) :
    ∃ ao cap, w.cell? ⟨p, 1, none⟩ = some (.slice ao q.length cap) ∧ Reads w ao q.length cap q := by
  obtain ⟨S1, h1⟩ := h.one hm
  obtain ⟨⟨ao, cap⟩, ⟨e1, e2⟩, h2⟩ := h1.unfold
  obtain ⟨hR, -, -⟩ := RF.of h2 e1 e2
  exact ⟨ao, cap, hR.c1, rfl, hR.h3, hR.h4, hR.cb⟩

theorem Reads.drewN {w : World} {ao : Option Addr} {n cap : Nat} {q : List Int} (h : Reads w ao n cap q) (k : Nat) : Reads (w.drewN k) ao n cap q := ⟨h.len, h.le, h.cap, h.cell⟩

def IntsRel (n : Nat) (q r : List Int) (w : World) (i : Value) (wr : World) : Prop := ∃ k : Nat, k ≤ n ∧ i = .int .i64 k ∧ (∃ m, wr = w.drewN m) ∧ ∀ j, j < k → el q j = el r j

theorem list_eq_of {q r : List Int} {n : Nat} (hq : q.length = n) (hr : r.length = n) (h : ∀ j, j < n → el q j = el r j) : q = r := by
  apply List.ext_getElem (by omega)
  intro j h1 h2
  have := h j (by omega)
  simpa [el, List.getD, h1, h2] using this

theorem Ints_any {w : World} {ao bo : Option Addr} {n m cap cap2 : Nat} {q r : List Int} (hq : Reads w ao n cap q) (hr : Reads w bo m cap2 r) :
    Calls Try.prog 10 #[.slice ao n cap, .slice bo m cap2] w (Quiet w (.bool (decide (q = r)))) := by
  have lq := hq.le
  have cq := hq.cap
  have lr := hr.le
  have cr := hr.cap
  by_cases hnm : n = m
  · subst hnm
    go_enter Try.func10, Try.ntmps10
    go_wp2
    go_loopw [13] (fun i wr => IntsRel n q r w i wr) (fun i _ => n - (intOf i).toNat)
    case atStart => exact ⟨0, by omega, rfl, ⟨0, rfl⟩, by omega⟩
    case round =>
      obtain ⟨k, hk, rfl, ⟨d, hd⟩, hno⟩ := hrel
      have hq' : Reads wr ao n cap q := by rw [hd]; exact hq.drewN d
      have hr' : Reads wr bo n cap2 r := by rw [hd]; exact hr.drewN d
      have HD := Lib.hid hd
      have HN := Lib.hid hno
      clear hd hno
      by_cases hlt : k < n
      · obtain ⟨g, rfl, ha⟩ := hq'.cell k hlt
        obtain ⟨g', rfl, hb⟩ := hr'.cell k hlt
        have hlt' : (k : Int) < (n : Int) := by omega
        have hge' : (0 : Int) ≤ (k : Int) := by omega
        by_cases hx : el q k = el r k
        · have HX := Lib.hid hx
          obtain ⟨x, hx1⟩ : ∃ x, el q k = x := ⟨_, rfl⟩
          rw [hx1] at ha
          rw [← hx, hx1] at hb
          clear hx hx1
          go_wp2
          go_quiet (fail)
          go_wp2
          go_roundw
          case rel =>
            refine ⟨k + 1, by omega, by go_num, ⟨_, by rw [HD.out, World.drewN_drewN]⟩, ?_⟩
            intro j hj
            rcases Nat.lt_or_ge j k with hj' | hj'
            · exact HN.out j hj'
            · obtain rfl : j = k := by omega
              exact HX.out
          case measure => simp [intOf]; omega
        · have HX := Lib.hid hx
          have hx' : (el q k == el r k) = false := by simp [hx]
          have hx2 : (!(el q k == el r k)) = true := by simp [hx]
          obtain ⟨x, hx1⟩ : ∃ x, el q k = x := ⟨_, rfl⟩
          obtain ⟨y, hy1⟩ : ∃ y, el r k = y := ⟨_, rfl⟩
          rw [hx1] at ha hx' hx2
          rw [hy1] at hb hx' hx2
          clear hx hx1 hy1
          go_wp2
          go_quiet (fail)
          go_wp2
          go_ret
          have : ¬ q = r := fun e => HX.out (by rw [e])
          exact ⟨by simp [this], _, by rw [HD.out, World.drewN_drewN]⟩
      · have hkn : k = n := by omega
        subst hkn
        clear hq' hr'
        go_wp2
        go_ret
        have : q = r := list_eq_of hq.len hr.len HN.out
        exact ⟨by simp [this], _, HD.out⟩
  · have hne : ((n : Int) == (m : Int)) = false := by simp; omega
    have hne2 : (!((n : Int) == (m : Int))) = true := by simp; omega
    have HX := Lib.hid hnm
    clear hnm
    go_enter Try.func10, Try.ntmps10
    go_wp2
    go_ret
    have : ¬ q = r := fun e => HX.out (by rw [← hq.len, ← hr.len, e])
    exact ⟨by simp [this], 0, rfl⟩

end Go.Proofs.Yteholmfgefhgeaa
