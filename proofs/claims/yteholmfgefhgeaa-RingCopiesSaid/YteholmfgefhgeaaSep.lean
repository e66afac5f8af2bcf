/- Ownership of blocks: what a piece of memory holds, told by lists of parts whose blocks do not meet; contracts that keep all else. -/
import Derived.WalkKit
import Derived.Deep.Draws
import Derived.Laws.MakeOwn
namespace Go.Sep
open Go.RowKit

abbrev Fp := Nat → Prop

/-- What a part of memory holds, and which blocks it is. -/
structure HP where
  sat : World → Fp → Prop
  frame : ∀ {w w' : World} {S : Fp}, sat w S → (∀ k, S k → w'.heap[k]? = w.heap[k]?) → sat w' S
  old : ∀ {w : World} {S : Fp}, sat w S → ∀ k, S k → k < w.heap.size

theorem lt_of_some {w : World} {b : Nat} {o : Obj} (h : w.heap[b]? = some o) : b < w.heap.size := by
  rcases Nat.lt_or_ge b w.heap.size with h' | h'
  · exact h'
  · simp [Array.getElem?_eq_none h'] at h

theorem lt_of_same {w w' : World} {k : Nat} (h : w'.heap[k]? = w.heap[k]?) (hk : k < w.heap.size) : k < w'.heap.size := by
  rw [Array.getElem?_eq_getElem hk] at h
  exact lt_of_some h

/-- One block. -/
def pto (b : Nat) (o : Obj) : HP where
  sat w S := w.heap[b]? = some o ∧ ∀ k, S k ↔ k = b
  frame h hk := ⟨by rw [hk b ((h.2 b).2 rfl)]; exact h.1, h.2⟩
  old h k hk := by rw [(h.2 k).1 hk]; exact lt_of_some h.1

/-- One block of cells. -/
abbrev pt (b : Nat) (cs : Array Value) (t : TypeId) : HP := pto b (.cells cs t (0, 0))

def Sat : List HP → World → Fp → Prop
  | [], w, S => ∀ k, S k → k < w.heap.size
  | A :: l, w, S => ∃ S1 S2, A.sat w S1 ∧ Sat l w S2 ∧ (∀ k, S1 k → ¬ S2 k) ∧ (∀ k, S1 k → S k) ∧ (∀ k, S2 k → S k) ∧ (∀ k, S k → k < w.heap.size)

theorem Sat.old : ∀ {l : List HP} {w : World} {S : Fp}, Sat l w S → ∀ k, S k → k < w.heap.size
  | [], _, _, h => h
  | _ :: _, _, _, ⟨_, _, _, _, _, _, _, h⟩ => h

theorem Sat.frame : ∀ {l : List HP} {w w' : World} {S : Fp}, Sat l w S → (∀ k, S k → w'.heap[k]? = w.heap[k]?) → Sat l w' S
  | [], _, _, _, h, hk => fun k s => lt_of_same (hk k s) (h k s)
  | _ :: _, _, _, _, ⟨S1, S2, h1, h2, hd, k1, k2, ho⟩, hk =>
    ⟨S1, S2, HP.frame _ h1 (fun k s => hk k (k1 k s)), Sat.frame h2 (fun k s => hk k (k2 k s)), hd, k1, k2, fun k s => lt_of_same (hk k s) (ho k s)⟩

theorem Sat.mono : ∀ {l : List HP} {w : World} {S S' : Fp}, Sat l w S → (∀ k, S k → S' k) → (∀ k, S' k → k < w.heap.size) → Sat l w S'
  | [], _, _, _, _, _, ho => ho
  | _ :: _, _, _, _, ⟨S1, S2, h1, h2, hd, k1, k2, _⟩, hs, ho => ⟨S1, S2, h1, h2, hd, fun k s => hs k (k1 k s), fun k s => hs k (k2 k s), ho⟩

theorem Sat.tail {A : HP} {l : List HP} {w : World} {S : Fp} (h : Sat (A :: l) w S) : Sat l w S := by
  obtain ⟨S1, S2, h1, h2, hd, k1, k2, ho⟩ := h
  exact h2.mono k2 ho

theorem Sat.swap {A B : HP} {l : List HP} {w : World} {S : Fp} (h : Sat (A :: B :: l) w S) : Sat (B :: A :: l) w S := by
  obtain ⟨S1, S2, h1, ⟨S3, S4, h3, h4, hd', k3, k4, _⟩, hd, k1, k2, ho⟩ := h
  refine ⟨S3, fun k => S1 k ∨ S4 k, h3, ⟨S1, S4, h1, h4, fun k s s' => hd k s (k4 k s'), fun k s => .inl s, fun k s => .inr s, ?_⟩, ?_, fun k s => k2 k (k3 k s), ?_, ho⟩
  · rintro k (s | s)
    · exact ho k (k1 k s)
    · exact ho k (k2 k (k4 k s))
  · rintro k s (s' | s')
    · exact hd k s' (k3 k s)
    · exact hd' k s s'
  · rintro k (s | s)
    · exact k1 k s
    · exact k2 k (k4 k s)

theorem Sat.cons_mono {A : HP} {l l' : List HP} (h : ∀ w S, Sat l w S → Sat l' w S) {w : World} {S : Fp} (hs : Sat (A :: l) w S) : Sat (A :: l') w S := by
  obtain ⟨S1, S2, h1, h2, hd, k1, k2, ho⟩ := hs
  exact ⟨S1, S2, h1, h _ _ h2, hd, k1, k2, ho⟩

theorem Sat.perm {l l' : List HP} (p : l.Perm l') : ∀ {w : World} {S : Fp}, Sat l w S → Sat l' w S := by
  induction p with
  | nil => exact fun h => h
  | cons A _ ih => exact fun h => Sat.cons_mono (fun _ _ => ih) h
  | swap A B l => exact fun h => h.swap
  | trans _ _ ih1 ih2 => exact fun h => ih2 (ih1 h)

/-- The i-th part, taken to the front. -/
theorem perm_pull : ∀ (l : List HP) (i : Nat) (h : i < l.length), l.Perm (l[i] :: l.eraseIdx i)
  | [], i, h => by simp at h
  | A :: l, 0, h => List.Perm.refl _
  | A :: l, i + 1, h => by
    simp only [List.length_cons] at h
    refine (List.Perm.cons A (perm_pull l i (by omega))).trans ?_
    simp only [List.getElem_cons_succ, List.eraseIdx_cons_succ]
    exact List.Perm.swap _ _ _

theorem Sat.pull {l : List HP} {w : World} {S : Fp} (h : Sat l w S) (i : Nat) (hi : i < l.length) : Sat (l[i] :: l.eraseIdx i) w S := h.perm (perm_pull l i hi)

theorem Sat.append_split : ∀ {l l' : List HP} {w : World} {S : Fp}, Sat (l ++ l') w S → ∃ S1 S2, Sat l w S1 ∧ Sat l' w S2 ∧ (∀ k, S1 k → ¬ S2 k) ∧ (∀ k, S1 k → S k) ∧ (∀ k, S2 k → S k)
  | [], l', w, S, h => ⟨fun _ => False, S, fun _ f => f.elim, h, fun _ f => f.elim, fun _ f => f.elim, fun _ s => s⟩
  | A :: l, l', w, S, ⟨S1, S2, h1, h2, hd, k1, k2, ho⟩ => by
    obtain ⟨S3, S4, h3, h4, hd', k3, k4⟩ := Sat.append_split h2
    refine ⟨fun k => S1 k ∨ S3 k, S4, ⟨S1, S3, h1, h3, fun k s s' => hd k s (k3 k s'), fun k s => .inl s, fun k s => .inr s, ?_⟩, h4, ?_, ?_, fun k s => k2 k (k4 k s)⟩
    · rintro k (s | s)
      · exact ho k (k1 k s)
      · exact ho k (k2 k (k3 k s))
    · rintro k (s | s) s'
      · exact hd k s (k4 k s')
      · exact hd' k s s'
    · rintro k (s | s)
      · exact k1 k s
      · exact k2 k (k3 k s)

theorem Sat.append_join : ∀ {l l' : List HP} {w : World} {S S1 S2 : Fp}, Sat l w S1 → Sat l' w S2 → (∀ k, S1 k → ¬ S2 k) → (∀ k, S1 k → S k) → (∀ k, S2 k → S k) → (∀ k, S k → k < w.heap.size) → Sat (l ++ l') w S
  | [], _, _, _, _, _, _, h', _, _, k2, ho => h'.mono k2 ho
  | _ :: _, _, w, S, S1, S2, ⟨S3, S4, h3, h4, hd', k3, k4, _⟩, h', hd, k1, k2, ho => by
    refine ⟨S3, fun k => S4 k ∨ S2 k, h3, Sat.append_join h4 h' (fun k s => hd k (k4 k s)) (fun k s => .inl s) (fun k s => .inr s) ?_, ?_, fun k s => k1 k (k3 k s), ?_, ho⟩
    · rintro k (s | s)
      · exact ho k (k1 k (k4 k s))
      · exact ho k (k2 k s)
    · rintro k s (s' | s')
      · exact hd' k s s'
      · exact hd k (k3 k s) s'
    · rintro k (s | s)
      · exact k1 k (k4 k s)
      · exact k2 k s

/-- From w to w' no block outside S has turned; what is owned behind it was owned, or is new. -/
structure Fr (S S' : Fp) (w w' : World) : Prop where
  os : w'.os = w.os
  tape : w'.tape = w.tape
  output : w'.output = w.output
  size : w.heap.size ≤ w'.heap.size
  same : ∀ k, k < w.heap.size → ¬ S k → w'.heap[k]? = w.heap[k]?
  fresh : ∀ k, S' k → S k ∨ w.heap.size ≤ k

theorem Fr.refl (S : Fp) (w : World) : Fr S S w w := ⟨rfl, rfl, rfl, Nat.le_refl _, fun _ _ _ => rfl, fun _ s => .inl s⟩

theorem Fr.trans {S S1 S2 : Fp} {w w1 w2 : World} (h : Fr S S1 w w1) (h' : Fr S1 S2 w1 w2) : Fr S S2 w w2 where
  os := h'.os.trans h.os
  tape := h'.tape.trans h.tape
  output := h'.output.trans h.output
  size := Nat.le_trans h.size h'.size
  same k hk hs := by
    rw [h'.same k (Nat.lt_of_lt_of_le hk h.size) ?_, h.same k hk hs]
    intro s
    rcases h.fresh k s with s | s
    · exact hs s
    · omega
  fresh k s := by
    rcases h'.fresh k s with s | s
    · exact h.fresh k s
    · exact .inr (Nat.le_trans h.size s)

theorem Fr.sub {S S' T : Fp} {w w' : World} (h : Fr S S' w w') (hT : ∀ k, T k → S' k) : Fr S T w w' :=
  ⟨h.os, h.tape, h.output, h.size, h.same, fun k s => h.fresh k (hT k s)⟩

theorem Fr.drew {S S' : Fp} {w w' : World} (h : Fr S S' w w') : Fr S S' w w'.drew := ⟨h.os, h.tape, h.output, h.size, h.same, h.fresh⟩
theorem Fr.drewN {S S' : Fp} {w w' : World} (h : Fr S S' w w') (n : Nat) : Fr S S' w (w'.drewN n) := ⟨h.os, h.tape, h.output, h.size, h.same, h.fresh⟩
theorem Sat.drew {l : List HP} {S : Fp} {w : World} (h : Sat l w S) : Sat l w.drew S := h.frame fun _ _ => rfl
theorem Sat.drewN {l : List HP} {S : Fp} {w : World} (h : Sat l w S) (n : Nat) : Sat l (w.drewN n) S := h.frame fun _ _ => rfl

theorem heap_setCell {w : World} {b o : Nat} {cs : Array Value} {t : TypeId} {fz : Nat × Nat} (h : w.heap[b]? = some (.cells cs t fz)) (v : Value) :
    (w.setCell ⟨b, o, none⟩ v).heap[b]? = some (.cells (cs.setIfInBounds o v) t fz) := by
  simp [World.setCell, Array.getElem?_modify, h]

theorem heap_setCell_ne {w : World} {b o k : Nat} (v : Value) (h : k ≠ b) : (w.setCell ⟨b, o, none⟩ v).heap[k]? = w.heap[k]? := Below.heap_setCell _ _ _ _ h

/-- A store into the first part. -/
theorem Sat.set {b : Nat} {cs : Array Value} {t : TypeId} {l : List HP} {w : World} {S : Fp} (h : Sat (pt b cs t :: l) w S) (o : Nat) (v : Value) :
    Sat (pt b (cs.setIfInBounds o v) t :: l) (w.setCell ⟨b, o, none⟩ v) S := by
  obtain ⟨S1, S2, ⟨h1, e1⟩, h2, hd, k1, k2, ho⟩ := h
  refine ⟨S1, S2, ⟨heap_setCell h1 v, e1⟩, h2.frame fun k s => heap_setCell_ne v ?_, hd, k1, k2, by simpa using ho⟩
  rintro rfl
  exact hd k ((e1 k).2 rfl) s

theorem Sat.owns {b : Nat} {o : Obj} {l : List HP} {w : World} {S : Fp} (h : Sat (pto b o :: l) w S) : S b := by
  obtain ⟨S1, S2, ⟨h1, e1⟩, h2, hd, k1, k2, ho⟩ := h
  exact k1 b ((e1 b).2 rfl)

theorem Sat.head {A : HP} {l : List HP} {w : World} {S : Fp} (h : Sat (A :: l) w S) : ∃ S1, A.sat w S1 ∧ ∀ k, S1 k → S k := by
  obtain ⟨S1, S2, h1, h2, hd, k1, k2, ho⟩ := h
  exact ⟨S1, h1, k1⟩

theorem Sat.mem : ∀ {l : List HP} {A : HP} {w : World} {S : Fp}, Sat l w S → A ∈ l → ∃ S1, A.sat w S1 ∧ ∀ k, S1 k → S k
  | B :: l, A, w, S, h, hm => by
    rcases List.mem_cons.1 hm with rfl | hm
    · exact h.head
    · obtain ⟨S1, S2, h1, h2, hd, k1, k2, ho⟩ := h
      obtain ⟨S3, h3, k3⟩ := Sat.mem h2 hm
      exact ⟨S3, h3, fun k s => k2 k (k3 k s)⟩

/-- One part by itself: for reading. -/
theorem Sat.one {l : List HP} {A : HP} {w : World} {S : Fp} (h : Sat l w S) (hm : A ∈ l) : ∃ S1, Sat [A] w S1 := by
  obtain ⟨S1, h1, _⟩ := h.mem hm
  exact ⟨S1, S1, fun _ => False, h1, fun _ f => f.elim, fun _ _ f => f, fun _ s => s, fun _ f => f.elim, HP.old _ h1⟩

theorem Sat.block {l : List HP} {b : Nat} {o : Obj} {w : World} {S : Fp} (h : Sat l w S) (hm : pto b o ∈ l) : w.heap[b]? = some o := by
  obtain ⟨S1, h1, _⟩ := h.mem hm
  exact h1.1

theorem Fr.setCell {S S' : Fp} {w w' : World} (h : Fr S S' w w') {b o : Nat} {v : Value} (hb : S' b) : Fr S S' w (w'.setCell ⟨b, o, none⟩ v) where
  os := h.os
  tape := h.tape
  output := h.output
  size := by simpa using h.size
  same k hk hs := by
    rw [heap_setCell_ne, h.same k hk hs]
    rintro rfl
    rcases h.fresh k hb with s | s
    · exact hs s
    · omega
  fresh := h.fresh

/-- A new block. -/
theorem Sat.alloc {l : List HP} {w : World} {S : Fp} (h : Sat l w S) (o : Obj) : Sat (pto w.heap.size o :: l) (w.alloc o) (fun k => S k ∨ k = w.heap.size) := by
  refine ⟨fun k => k = w.heap.size, S, ⟨by show (w.heap.push o)[w.heap.size]? = _; simp, fun k => Iff.rfl⟩, h.frame fun k s => ?_, ?_, fun k s => .inr s, fun k s => .inl s, ?_⟩
  · have := h.old k s
    exact Below.heap_alloc _ _ _ this
  · rintro k rfl s
    have := h.old _ s
    omega
  · rintro k (s | s)
    · have := h.old k s
      simp; omega
    · simp; omega

theorem Fr.alloc {S S' : Fp} {w w' : World} (h : Fr S S' w w') (o : Obj) : Fr S (fun k => S' k ∨ k = w'.heap.size) w (w'.alloc o) where
  os := h.os
  tape := h.tape
  output := h.output
  size := by have := h.size; simp; omega
  same k hk hs := by
    rw [Below.heap_alloc _ _ _ (by have := h.size; omega)]
    exact h.same k hk hs
  fresh k := by
    rintro (s | s)
    · exact h.fresh k s
    · exact .inr (by have := h.size; omega)

/-- Two parts own two blocks. -/
theorem Sat.ne {b b' : Nat} {o o' : Obj} {l : List HP} {w : World} {S : Fp} (h : Sat (pto b o :: l) w S) (hm : pto b' o' ∈ l) : b ≠ b' := by
  obtain ⟨S1, S2, ⟨h1, e1⟩, h2, hd, k1, k2, ho⟩ := h
  obtain ⟨S3, h3, k3⟩ := h2.mem hm
  rintro rfl
  exact hd b ((e1 b).2 rfl) (k3 b ((h3.2 b).2 rfl))

/-- A part made of parts, of which something holds. -/
def exs {α : Type} (c : α → Prop) (body : α → List HP) : HP where
  sat w S := ∃ x, c x ∧ Sat (body x) w S
  frame := fun ⟨x, hc, h⟩ hk => ⟨x, hc, h.frame hk⟩
  old := fun ⟨_, _, h⟩ => h.old

theorem Sat.unfold {α : Type} {c : α → Prop} {body : α → List HP} {l : List HP} {w : World} {S : Fp} (h : Sat (exs c body :: l) w S) : ∃ x, c x ∧ Sat (body x ++ l) w S := by
  obtain ⟨S1, S2, ⟨x, hc, h1⟩, h2, hd, k1, k2, ho⟩ := h
  exact ⟨x, hc, Sat.append_join h1 h2 hd k1 k2 ho⟩

theorem Sat.fold {α : Type} {c : α → Prop} {body : α → List HP} {l : List HP} {w : World} {S : Fp} (x : α) (hc : c x) (h : Sat (body x ++ l) w S) : Sat (exs c body :: l) w S := by
  obtain ⟨S1, S2, h1, h2, hd, k1, k2⟩ := h.append_split
  exact ⟨S1, S2, ⟨x, hc, h1⟩, h2, hd, k1, k2, h.old⟩

/-- A contract: from Pre to what Q tells; all else is kept. -/
def Tri (P : Program) (f : FuncId) (args : Array Value) (Pre : List HP) (Q : Ending → List HP → Prop) : Prop :=
  ∀ (w : World) (S : Fp), Sat Pre w S → Calls P f args w fun e w' => ∃ L S', Q e L ∧ Sat L w' S' ∧ Fr S S' w w'

theorem Tri.call {P : Program} {f : FuncId} {args : Array Value} {Pre : List HP} {Q : Ending → List HP → Prop} (h : Tri P f args Pre Q)
    {F : List HP} {w : World} {S : Fp} (hs : Sat (Pre ++ F) w S) : Calls P f args w fun e w' => ∃ L S', Q e L ∧ Sat (L ++ F) w' S' ∧ Fr S S' w w' := by
  obtain ⟨S1, S2, h1, h2, hd, k1, k2⟩ := hs.append_split
  refine (h w S1 h1).mono ?_
  rintro e w' ⟨L, S', hq, hL, hf⟩
  have h2' : Sat F w' S2 := h2.frame fun k s => hf.same k (h2.old k s) fun s' => hd k s' s
  have hd' : ∀ k, S' k → ¬ S2 k := by
    intro k s s'
    rcases hf.fresh k s with s1 | s1
    · exact hd k s1 s'
    · have := h2.old k s'
      omega
  refine ⟨L, fun k => S' k ∨ S2 k, hq, Sat.append_join hL h2' hd' (fun k s => .inl s) (fun k s => .inr s) ?_, ⟨hf.os, hf.tape, hf.output, hf.size, ?_, ?_⟩⟩
  · rintro k (s | s)
    · exact hL.old k s
    · exact h2'.old k s
  · exact fun k hk hs => hf.same k hk fun s => hs (k1 k s)
  · rintro k (s | s)
    · rcases hf.fresh k s with s | s
      · exact .inl (k1 k s)
      · exact .inr s
    · exact .inl (k2 k s)

theorem Tri.mono {P : Program} {f : FuncId} {args : Array Value} {Pre : List HP} {Q Q' : Ending → List HP → Prop} (h : Tri P f args Pre Q) (hq : ∀ e L, Q e L → Q' e L) : Tri P f args Pre Q' :=
  fun w S hs => (h w S hs).mono fun e w' ⟨L, S', q, r⟩ => ⟨L, S', hq e L q, r⟩

theorem cell_of_block {w : World} {b o : Nat} {cs : Array Value} {t : TypeId} {fz : Nat × Nat} (h : w.heap[b]? = some (.cells cs t fz)) : w.cell? ⟨b, o, none⟩ = cs[o]? := by
  simp [World.cell?, h]
theorem free_of_block {w : World} {b o : Nat} {cs : Array Value} {t : TypeId} (h : w.heap[b]? = some (.cells cs t (0, 0))) : w.frozen? ⟨b, o, none⟩ = false := by
  simp [World.frozen?, h]

theorem cell_set_off {w : World} {b b' o o' : Nat} {v : Value} (h : o ≠ o') : (w.setCell ⟨b, o, none⟩ v).cell? ⟨b', o', none⟩ = w.cell? ⟨b', o', none⟩ :=
  World.cell?_setCell_other w _ _ v (fun e => h (by cases e; rfl))

theorem one_ints (k : IntKind) (l : List Int) : ∀ v ∈ l.map (Value.int k), v.oneCell' = true := by
  intro v hv
  obtain ⟨x, _, rfl⟩ := List.mem_map.1 hv
  rfl

def zeros (n : Nat) : Array Value := ((List.replicate n (0 : Int)).map (Value.int .i64)).toArray

theorem madeCells_zero (n : Nat) : madeCells #[.int .i64 0] n = zeros n := by
  apply Array.ext
  · simp [madeCells, zeros]
  · intro i h1 h2
    simp [madeCells, zeros, Nat.mod_one]

/-- 'make([]int, n)'. -/
theorem run_make_ints {P : Program} (w : World) (t e : TypeId) (i : TypeInfo) (ht : P.underlying t = some (.slice e)) (hi : P.info? e = some i) (hz : i.zero = some (.int .i64 0)) (hs : i.size = 1) (hb : i.bytes = 8)
    (n : Nat) (hn : n ≤ 1048576) :
    (Instr.makeSlice t (.int .i64 n) (.int .i64 n)).run P w = .ok (.slice (some ⟨w.heap.size, 0, none⟩) n n) (w.alloc (.cells (zeros n) e)) := by
  rw [run_make w t e i _ ht hi hz .i64 .i64 n n (by omega) (by omega) (by rw [hb]; omega) (by omega), hs]
  simp only [Int.toNat_natCast, Nat.mul_one]
  rw [← madeCells_zero]
  rfl

end Go.Sep
