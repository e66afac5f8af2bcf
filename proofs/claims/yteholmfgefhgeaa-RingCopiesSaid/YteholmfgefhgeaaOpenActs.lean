/- A slice of structs of two numbers, as it comes in. -/
import Derived.Test.YteholmfgefhgeaaRingZ
import Derived.Deep.Slices
import Derived.Deep.Fields
import Derived.ChangeSame
import Derived.ProofKit
import Derived.OpenShut
import Derived.ShutString
import Derived.ChangeOld
import Derived.Below
namespace Go.Proofs.Yteholmfgefhgeaa
open Go.ChangeShapes Go.WideShapes Go.Deep Go.ChangeAt Go.RowKit Go.Sep

section
variable {H : Type} {enc : TypeId × Value → H} {P : Program} {w : World} {base : Nat} {spare : Nat → Bool} {held : Bool}
/-- Each element's fields, of a slice of structs of one-cell fields. -/
theorem open_slice_fields {t e : TypeId} {fs : Array Field} {fuel : Nat} {cs : List Value} {x : DataW H × List MemPlace} (ht : P.underlying t = some (.slice e)) (he : P.underlying e = some (.struct fs))
    (hone : oneCellFields P fs = true) (hC : P.cellsOf e = fs.size) (h : DataW.trod enc P w base spare held fuel t cs = some x) :
    cs = [.slice none 0 0] ∨
    ∃ (a : Addr) (len cap m : Nat), cs = [.slice (some a) len cap] ∧ len ≤ cap ∧ cap ≤ maxLen ∧ m = (if spare a.block then cap else len) ∧
      ∀ i, i < m → ∀ (j : Nat) (f : Field), fs[j]? = some f → ∃ (v : Value) (y : DataW H × List MemPlace) (n : Nat), w.cell? (a.add (i * fs.size + j)) = some v ∧ DataW.trod enc P w base spare held n f.type [v] = some y := by
  rcases open_slice ht h with h0 | ⟨a, len, cap, m, n, D, Pl, hcs, hb, hl, hm, hmm, hx, hi⟩
  · exact .inl h0.1
  · refine .inr ⟨a, len, cap, m, hcs, hl, hm, hmm, fun i him => ?_⟩
    obtain ⟨cs', hc, ht'⟩ := hi i him
    rw [hC] at hc
    obtain ⟨ys, n', hn', hy, hlen, hyl, hf⟩ := DataW.trod_struct he ht'
    obtain ⟨_, hcl, hat⟩ := World.cells?_some hc
    intro j f hj
    obtain ⟨ho, hk⟩ := hone_of hone j f hj
    have hjl : j < fs.size := (Array.getElem?_eq_some_iff.1 hj).1
    have hcell := hat j hjl
    have hv : cs'[j]? = some (cs'[j]'(by omega)) := List.getElem?_eq_getElem (by omega)
    have h1 := hf j f hj
    rw [ho, hk] at h1
    have hone' : (cs'.drop j).take 1 = [cs'[j]'(by omega)] := by
      rw [List.drop_eq_getElem_cons (by omega)]
      rfl
    rw [hone'] at h1
    have hys : ys[j]? = some (ys[j]'(by omega)) := List.getElem?_eq_getElem (by omega)
    refine ⟨_, _, n', ?_, h1.trans hys⟩
    rw [← Go.Deep.add_add, hcell, hv]
end

def numAt (w : World) (a : Addr) : Int := match w.cell? a with
  | some (.int _ x) => x
  | _ => 0

/-- The acts that lie at a. -/
def actsAt (w : World) (a : Option Addr) (len : Nat) : List (Int × Int) := match a with
  | none => []
  | some a => (List.range len).map fun i => (numAt w (a.add (i * 2)), numAt w (a.add (i * 2 + 1)))

theorem spot_of_cell {w : World} {a : Addr} {v : Value} (h : w.cell? a = some v) : a.spot = none := by
  unfold World.cell? at h
  split at h
  · split at h
    · cases h
    · rename_i hs
      simpa using hs
  · cases h

theorem cellsAct : Try.prog.cellsOf 29 = 2 := by kernel_rfl
theorem oneCellAct : ∃ f0 f1 : Field, Try.prog.underlying 29 = some (.struct #[f0, f1]) ∧ f0.type = 3 ∧ f1.type = 3 ∧ oneCellFields Try.prog #[f0, f1] = true :=
  ⟨_, _, Try.underlying29, rfl, rfl, by kernel_rfl⟩

theorem acts_of {H : Type} {enc : TypeId × Value → H} {w : World} {base : Nat} {held : Bool} {a : Option Addr} {len cap : Nat} {d : DataW H} {p : List MemPlace}
    (h : DataW.Trod enc Try.prog w base (fun _ => true) held 22 (.slice a len cap) d p) : ActsIn w a len cap (actsAt w a len) := by
  obtain ⟨fuel, hf⟩ := h
  obtain ⟨f0, f1, hu, t0, t1, hone⟩ := oneCellAct
  rcases open_slice_fields Try.underlying22 hu hone cellsAct hf with hcs | ⟨x, l, c, m, hcs, hl, hm, hmm, hi⟩
  · simp [Value.cells] at hcs
    obtain ⟨rfl, rfl, rfl⟩ := hcs
    exact ⟨rfl, Nat.le_refl _, by omega, fun j hj => by omega⟩
  · simp [Value.cells] at hcs
    obtain ⟨rfl, rfl, rfl⟩ := hcs
    have hm' : m = cap := by simpa using hmm
    subst hm'
    refine ⟨by simp [actsAt], hl, by simpa [maxLen] using hm, fun j hj => ?_⟩
    obtain ⟨v0, y0, n0, c0, z0⟩ := hi j (by omega) 0 f0 rfl
    obtain ⟨v1, y1, n1, c1, z1⟩ := hi j (by omega) 1 f1 rfl
    rw [t0] at z0
    rw [t1] at z1
    obtain ⟨i0, e0, -, -⟩ := DataW.trod_int Try.underlying3 z0
    obtain ⟨i1, e1, -, -⟩ := DataW.trod_int Try.underlying3 z1
    simp at e0 e1
    subst e0 e1
    have hs : x.spot = none := by
      obtain ⟨u0, -, -, q0, -⟩ := hi 0 (by omega) 0 f0 rfl
      have := spot_of_cell q0
      simpa [Addr.add] using this
    obtain ⟨b, off, sp⟩ := x
    simp only at hs
    subst hs
    have ea : ∀ k, (⟨b, off, none⟩ : Addr).add k = ⟨b, off + k, none⟩ := by
      intro k
      unfold Addr.add
      by_cases hk : k = 0
      · rw [if_pos hk, hk]
        rfl
      · rw [if_neg hk]
    have g0 : w.cell? ⟨b, off + j * 2, none⟩ = some (.int .i64 i0) := by rw [ea] at c0; exact c0
    have g1 : w.cell? ⟨b, off + (j * 2 + 1), none⟩ = some (.int .i64 i1) := by rw [ea] at c1; exact c1
    refine ⟨b, off, rfl, World.block_lt_of_cell? w _ g0, ?_, ?_⟩
    · rw [g0]
      simp [actsAt, List.getD, hj, numAt, ea, g0]
    · rw [Nat.add_assoc, g1]
      simp [actsAt, List.getD, hj, numAt, ea, g1]

/-- The law, whatever comes in. -/
theorem law_any {w : World} {ao bo : Option Addr} {n m cap cap2 : Nat} {l1 l2 : List (Int × Int)} (ha : ActsIn w ao n cap l1) (hb : ActsIn w bo m cap2 l2) :
    Calls Try.prog 3 #[.slice ao n cap, .slice bo m cap2] w fun e w' => e = .returned (.bool true) ∧ Below w.heap.size w w' := by
  have h : Calls Try.prog 3 #[.slice ao n cap, .slice bo m cap2] w (TEnd (fun e L => e = .returned (.bool true) ∧ L = []) w (fun _ => False)) := by
    by_cases c : n ≤ 200 ∧ m ≤ 200
    · exact law_short ha hb c.1 c.2
    · exact law_long (by omega) (Nat.le_trans ha.le ha.cap) (Nat.le_trans hb.le hb.cap)
  refine h.mono ?_
  rintro e w' ⟨L, S', ⟨rfl, rfl⟩, hS, hF⟩
  exact ⟨rfl, hF.os, hF.tape, hF.output, hF.size, fun k hk => hF.same k hk (fun f => f)⟩

end Go.Proofs.Yteholmfgefhgeaa
