/- Laws on append and copy over owned memory. -/
import Derived.Test.YteholmfgefhgeaaSep
import Derived.Deep.AppendSrc
import Derived.Laws.CopyOwn
import Derived.Deep.RegionLaw
namespace Go.Sep
open Go.RowKit

/-- A slice that owns its row: n elements of size cells each. -/
def slHP (ao : Option Addr) (n cap : Nat) (E : TypeId) (size : Nat) (xs : List Value) : HP :=
  exs (fun o : Option (Nat × List Value) => match o with
      | none => ao = none ∧ n = 0 ∧ cap = 0 ∧ xs = []
      | some x => ao = some ⟨x.1, 0, none⟩ ∧ n ≤ cap ∧ cap ≤ maxLen ∧ xs.length = n * size ∧ x.2.length = (cap - n) * size)
    (fun o => match o with
      | none => []
      | some x => [pt x.1 (xs ++ x.2).toArray E])

theorem sl_nil {l : List HP} {w : World} {S : Fp} (E : TypeId) (size : Nat) (h : Sat l w S) : Sat (slHP none 0 0 E size [] :: l) w S :=
  Sat.fold none ⟨rfl, rfl, rfl, rfl⟩ (by simpa using h)

theorem sl_row {l : List HP} {w : World} {S : Fp} {g n cap : Nat} {E : TypeId} {size : Nat} {xs spare : List Value} (h : Sat (pt g (xs ++ spare).toArray E :: l) w S) (h1 : n ≤ cap) (h2 : cap ≤ maxLen) (h3 : xs.length = n * size) (h4 : spare.length = (cap - n) * size) :
    Sat (slHP (some ⟨g, 0, none⟩) n cap E size xs :: l) w S :=
  Sat.fold (some (g, spare)) ⟨rfl, h1, h2, h3, h4⟩ (by simpa using h)

theorem sl_cases {l : List HP} {w : World} {S : Fp} {ao : Option Addr} {n cap : Nat} {E : TypeId} {size : Nat} {xs : List Value} (h : Sat (slHP ao n cap E size xs :: l) w S) :
    (ao = none ∧ n = 0 ∧ cap = 0 ∧ xs = [] ∧ Sat l w S) ∨ ∃ g spare, ao = some ⟨g, 0, none⟩ ∧ n ≤ cap ∧ cap ≤ maxLen ∧ xs.length = n * size ∧ spare.length = (cap - n) * size ∧ Sat (pt g (xs ++ spare).toArray E :: l) w S := by
  obtain ⟨o, hc, h⟩ := h.unfold
  cases o with
  | none => exact .inl ⟨hc.1, hc.2.1, hc.2.2.1, hc.2.2.2, by simpa using h⟩
  | some x => exact .inr ⟨x.1, x.2, hc.1, hc.2.1, hc.2.2.1, hc.2.2.2.1, hc.2.2.2.2, by simpa using h⟩

theorem sl_length {l : List HP} {w : World} {S : Fp} {ao : Option Addr} {n cap : Nat} {E : TypeId} {size : Nat} {xs : List Value} (h : Sat (slHP ao n cap E size xs :: l) w S) : xs.length = n * size ∧ n ≤ cap ∧ cap ≤ maxLen := by
  rcases sl_cases h with ⟨_, rfl, rfl, rfl, _⟩ | ⟨g, spare, _, h1, h2, h3, _, _⟩
  · exact ⟨by simp, Nat.le_refl _, Nat.zero_le _⟩
  · exact ⟨h3, h1, h2⟩

theorem addr_add (g j : Nat) : (⟨g, 0, none⟩ : Addr).add j = ⟨g, j, none⟩ := by unfold Addr.add; split <;> simp_all

/-- Where its cells lie. -/
theorem sl_cells {l : List HP} {w : World} {S : Fp} {g n cap : Nat} {E : TypeId} {size : Nat} {xs : List Value} (h : Sat (slHP (some ⟨g, 0, none⟩) n cap E size xs :: l) w S) :
    ∀ j u, xs[j]? = some u → w.cell? ⟨g, j, none⟩ = some u := by
  intro j u hu
  rcases sl_cases h with ⟨h0, _⟩ | ⟨g', spare, hg, h1, h2, h3, h4, hS⟩
  · cases h0
  · cases hg
    rw [cell_of_block (hS.block (List.mem_cons_self ..))]
    have hj := (List.getElem?_eq_some_iff.1 hu).1
    simp [List.getElem?_append_left hj, hu]

theorem sl_free {l : List HP} {w : World} {S : Fp} {g n cap : Nat} {E : TypeId} {size : Nat} {xs : List Value} (h : Sat (slHP (some ⟨g, 0, none⟩) n cap E size xs :: l) w S) :
    (∀ o, w.frozen? ⟨g, o, none⟩ = false) ∧ S g := by
  rcases sl_cases h with ⟨h0, _⟩ | ⟨g', spare, hg, h1, h2, h3, h4, hS⟩
  · cases h0
  · cases hg
    exact ⟨fun o => free_of_block (hS.block (List.mem_cons_self ..)), hS.owns⟩

theorem sl_some {l : List HP} {w : World} {S : Fp} {ao : Option Addr} {n cap : Nat} {E : TypeId} {size : Nat} {xs : List Value} (h : Sat (slHP ao n cap E size xs :: l) w S) (hn : 0 < n) : ∃ g, ao = some ⟨g, 0, none⟩ := by
  rcases sl_cases h with ⟨_, rfl, _⟩ | ⟨g, _, hg, _⟩
  · omega
  · exact ⟨g, hg⟩

/-- A source that is such a slice. -/
theorem sl_src {P : Program} {l : List HP} {w : World} {S : Fp} {ao : Option Addr} {n cap : Nat} {E : TypeId} {size : Nat} {xs : List Value} (h : Sat (slHP ao n cap E size xs :: l) w S) {tx e' : TypeId} (hk : P.underlying tx = some (.slice e')) (h1 : ∀ u ∈ xs, u.oneCell' = true) :
    Src P size tx (.slice ao n cap) n xs w := by
  rcases sl_cases h with ⟨rfl, rfl, rfl, rfl, _⟩ | ⟨g, spare, rfl, h2, h3, h4, h5, hS⟩
  · exact Src.ofNil w hk 0
  · exact Src.ofSlice w hk ⟨g, 0, none⟩ n cap xs h4 (fun j u hu => by rw [addr_add]; exact sl_cells h j u hu) h1

/-- setCells over a known block. -/
theorem setCells_block {t : TypeId} : ∀ (news : List Value) (g off : Nat) (cur : Array Value) (w : World), w.heap[g]? = some (.cells cur t (0, 0)) → off + news.length ≤ cur.size →
    (w.setCells g off news).heap[g]? = some (.cells (cur.toList.take off ++ news ++ cur.toList.drop (off + news.length)).toArray t (0, 0)) ∧
      (∀ k, k ≠ g → (w.setCells g off news).heap[k]? = w.heap[k]?) ∧ (w.setCells g off news).heap.size = w.heap.size ∧ (w.setCells g off news).os = w.os ∧ (w.setCells g off news).tape = w.tape ∧ (w.setCells g off news).output = w.output
  | [], g, off, cur, w, h, hf => by
    refine ⟨?_, fun _ _ => rfl, rfl, rfl, rfl, rfl⟩
    simp only [World.setCells]
    simpa using h
  | v :: r, g, off, cur, w, h, hf => by
    simp only [List.length_cons] at hf
    have h' : (w.setCell ⟨g, off, none⟩ v).heap[g]? = some (.cells (cur.setIfInBounds off v) t (0, 0)) := heap_setCell h v
    obtain ⟨i1, i2, i3, i4, i5, i6⟩ := setCells_block r g (off + 1) (cur.setIfInBounds off v) (w.setCell ⟨g, off, none⟩ v) h' (by simp; omega)
    simp only [World.setCells]
    refine ⟨?_, fun k hk => (i2 k hk).trans (heap_setCell_ne v hk), i3.trans (by simp), i4, i5, i6⟩
    rw [i1]
    have := list_seg_step cur.toList off v r (by simpa using by omega)
    simp only [Array.toList_setIfInBounds]
    rw [this]
    simp

theorem Sat.setCells {l : List HP} {w : World} {S : Fp} {g : Nat} {cur : Array Value} {t : TypeId} (h : Sat (pt g cur t :: l) w S) (off : Nat) (news : List Value) (hf : off + news.length ≤ cur.size) :
    Sat (pt g (cur.toList.take off ++ news ++ cur.toList.drop (off + news.length)).toArray t :: l) (w.setCells g off news) S ∧ Fr S S w (w.setCells g off news) := by
  have hb := h.block (List.mem_cons_self ..)
  obtain ⟨i1, i2, i3, i4, i5, i6⟩ := setCells_block news g off cur w hb hf
  have hs := h.owns
  refine ⟨?_, i4, i5, i6, by omega, fun k _ hk => i2 k (fun e => hk (e ▸ hs)), fun k s => .inl s⟩
  obtain ⟨S1, S2, ⟨h1, e1⟩, h2, hd, k1, k2, ho⟩ := h
  refine ⟨S1, S2, ⟨i1, e1⟩, h2.frame fun k s => i2 k ?_, hd, k1, k2, by rw [i3]; exact ho⟩
  rintro rfl
  exact hd k ((e1 k).2 rfl) s

theorem run_append_sep {P : Program} {l : List HP} {w : World} {S : Fp} {ao : Option Addr} {n cap : Nat} {e : TypeId} {size bytes : Nat} {xs : List Value} (h : Sat (slHP ao n cap e size xs :: l) w S)
    (t tx ty : TypeId) (i : TypeInfo) (z : Value) (ht : P.underlying t = some (.slice e)) (hi : P.info? e = some i) (hz : i.zero = some z) (hsz : i.size = size) (hby : i.bytes = bytes) (hzs : z.cells.size = size)
    (hone : ∀ u ∈ xs, u.oneCell' = true) (x : Value) (m : Nat) (news : List Value) (hs : Src P size tx x m news w) (h63 : n + m ≤ maxLen) (hb : (n + m) * bytes ≤ 140737488355328) :
    ∃ ao' cap' w' S', (Builtin.append_ #[t, tx] ty #[.slice ao n cap, x]).run P w = .ok (.slice ao' (n + m) cap') w' ∧ Sat (slHP ao' (n + m) cap' e size (xs ++ news) :: l) w' S' ∧ Fr S S' w w' := by
  subst hsz
  subst hby
  have hlen := sl_length h
  have hnl : (xs ++ news).length = (n + m) * i.size := by rw [List.length_append, hlen.1, hs.newsLen, Nat.add_mul]
  have h63' : ((n + m : Nat) : Int) ≤ 9223372036854775807 := by simp only [maxLen] at h63; omega
  by_cases hroom : n + m ≤ cap
  · rcases sl_cases h with ⟨rfl, rfl, rfl, rfl, hS⟩ | ⟨g, spare, rfl, h1, h2, h3, h4, hS⟩
    · obtain rfl : m = 0 := by omega
      have hn0 : news = [] := List.eq_nil_of_length_eq_zero (by simpa using hs.newsLen)
      subst hn0
      refine ⟨none, 0, w, S, ?_, h, Fr.refl S w⟩
      rcases hs.kind with ⟨e', hk⟩ | hk <;> simp [Builtin.append_, run_underlying ht, run_underlying hk, sizeOf, typeInfo, hi, hs.len, hs.cells, storeCells]
    · have hfit : n * i.size + news.length ≤ (xs ++ spare).toArray.size := by
        rw [hs.newsLen]
        simp only [List.size_toArray, List.length_append, h3, h4]
        have : m * i.size ≤ (cap - n) * i.size := Nat.mul_le_mul_right _ (by omega)
        omega
      have hblk := hS.block (List.mem_cons_self ..)
      have hr := run_append_room_src (P := P) w t tx ty e i ht hi g 0 n cap x m news hs hroom
        (fun j hj => by rw [cell_of_block hblk, Nat.zero_add]; have : n * i.size + j < (xs ++ spare).toArray.size := by omega
                        simp only [Array.getElem?_eq_getElem this, Option.isSome_some])
        (fun j _ => free_of_block hblk)
      obtain ⟨hS', hF'⟩ := hS.setCells (n * i.size) news hfit
      rw [Nat.zero_add] at hr
      refine ⟨some ⟨g, 0, none⟩, cap, _, S, hr, ?_, hF'⟩
      have e1 : ((xs ++ spare).toArray.toList.take (n * i.size) ++ news ++ (xs ++ spare).toArray.toList.drop (n * i.size + news.length)) = (xs ++ news) ++ spare.drop news.length := by
        have ex : n * i.size = xs.length := h3.symm
        simp only [ex]
        simp [List.drop_append]
      rw [e1] at hS'
      refine sl_row hS' hroom h2 hnl ?_
      rw [List.length_drop, h4, hs.newsLen, ← Nat.sub_mul]
      congr 1
      omega
  · have hold : (Builtin.firstCells i.size n (.slice ao n cap)).run P w.drew = .ok xs.toArray w.drew := by
      rcases sl_cases h with ⟨rfl, rfl, rfl, rfl, hS⟩ | ⟨g, spare, rfl, h1, h2, h3, h4, hS⟩
      · exact run_firstCells_none w.drew i.size 0 0 0
      · exact run_firstCells_some w.drew i.size n ⟨g, 0, none⟩ n cap xs h3 (fun j u hu => by rw [addr_add]; simpa using sl_cells h j u hu)
    have hr := run_append_grow_src (P := P) w t tx ty e i z ht hi hz ao n cap xs hold x m news hs (by omega) h63' (growslice_fits (by omega) hb)
    have hge := grownCap_ge w (n + m) cap e
    have hcm : grownCap w (n + m) cap e ≤ maxLen := grownCap_le_maxLen w (n + m) cap e h63
    refine ⟨_, _, _, _, hr, ?_, (Fr.refl S w).drew.alloc _⟩
    have hS0 : Sat l w S := by
      rcases sl_cases h with ⟨_, _, _, _, hS⟩ | ⟨g, spare, _, _, _, _, _, hS⟩
      · exact hS
      · exact hS.tail
    have hA := hS0.drew.alloc (.cells ((xs ++ news).toArray ++ Builtin.zeroCells z.cells (grownCap w (n + m) cap e - (n + m))) e)
    have e2 : ((xs ++ news).toArray ++ Builtin.zeroCells z.cells (grownCap w (n + m) cap e - (n + m))) = ((xs ++ news) ++ (Builtin.zeroCells z.cells (grownCap w (n + m) cap e - (n + m))).toList).toArray := by
      apply Array.ext'
      simp
    rw [e2] at hA ⊢
    exact sl_row hA hge hcm hnl (by rw [Array.length_toList, size_zeroCells, hzs])

/-- One new element: the block of one cell that holds it. -/
theorem src_one {P : Program} {l : List HP} {w : World} {S : Fp} {b : Nat} {v : Value} {E : TypeId} (h : Sat (pt b #[v] E :: l) w S) (tx : TypeId) {e' : TypeId} (hk : P.underlying tx = some (.slice e')) (h1 : v.oneCell' = true) :
    Src P 1 tx (.slice (some ⟨b, 0, none⟩) 1 1) 1 [v] w := by
  refine Src.ofSlice w hk ⟨b, 0, none⟩ 1 1 [v] rfl (fun j u hu => ?_) (fun u hu => by simp at hu; rw [hu]; exact h1)
  rw [addr_add, cell_of_block (h.block (List.mem_cons_self ..))]
  simpa using hu

section
variable {P : Program} {ops : Array Oper} {rest : List Oper} {o : Oper} {a : Act} {K : Act → World → Prop} {Q : Exit → Act → World → Prop} {E : Prop}

theorem wp_append_sep {w : World} (s x : Operand) (t tx : TypeId) (ho : o.op = .call { callee := .builtin .append, args := #[s, x], argTypes := #[t, tx] })
    {l : List HP} {S : Fp} {ao : Option Addr} {n cap : Nat} {e : TypeId} {size bytes : Nat} {xs : List Value} (i : TypeInfo) (z : Value) (ht : P.underlying t = some (.slice e)) (hi : P.info? e = some i) (hz : i.zero = some z) (hsz : i.size = size) (hby : i.bytes = bytes) (hzs : z.cells.size = size)
    (hone : ∀ u ∈ xs, u.oneCell' = true) (hv : a.eval s = .slice ao n cap) (h : Sat (slHP ao n cap e size xs :: l) w S)
    (xv : Value) (hx : a.eval x = xv) (m : Nat) (news : List Value) (hs : Src P size tx xv m news w) (h63 : n + m ≤ maxLen) (hb : (n + m) * bytes ≤ 140737488355328)
    (hk : ∀ ao' cap' w' S', Sat (slHP ao' (n + m) cap' e size (xs ++ news) :: l) w' S' → Fr S S' w w' → K (a.put o.dst (.slice ao' (n + m) cap')) w') : o.wp P a w K Q := by
  obtain ⟨ao', cap', w', S', hr, h2, h3⟩ := run_append_sep (P := P) h t tx o.type i z ht hi hz hsz hby hzs hone xv m news hs h63 hb
  unfold Oper.wp execOp
  simp only [ho, resolve, invoke, builtin, Sem.run_bind, Sem.run_pure, Result.andThen_ok, List.map_toArray, List.map_cons, List.map_nil, hv, hx, hr]
  exact hk _ _ _ _ h2 h3

theorem wpList_append_sep {w : World} (hgd : o.guard = none) (s x : Operand) (t tx : TypeId) (ho : o.op = .call { callee := .builtin .append, args := #[s, x], argTypes := #[t, tx] })
    {l : List HP} {S : Fp} {ao : Option Addr} {n cap : Nat} {e : TypeId} {size bytes : Nat} {xs : List Value} (i : TypeInfo) (z : Value) (ht : P.underlying t = some (.slice e)) (hi : P.info? e = some i) (hz : i.zero = some z) (hsz : i.size = size) (hby : i.bytes = bytes) (hzs : z.cells.size = size)
    (hone : ∀ u ∈ xs, u.oneCell' = true) (hv : a.eval s = .slice ao n cap) (h : Sat (slHP ao n cap e size xs :: l) w S)
    (xv : Value) (hx : a.eval x = xv) (m : Nat) (news : List Value) (hs : Src P size tx xv m news w) (h63 : n + m ≤ maxLen) (hb : (n + m) * bytes ≤ 140737488355328)
    (hk : ∀ ao' cap' w' S', Sat (slHP ao' (n + m) cap' e size (xs ++ news) :: l) w' S' → Fr S S' w w' → wpList P ops Q rest (a.put o.dst (.slice ao' (n + m) cap')) w') : wpList P ops Q (o :: rest) a w :=
  wpList_plain hgd fun _ hK => wp_append_sep s x t tx ho i z ht hi hz hsz hby hzs hone hv h xv hx m news hs h63 hb fun ao' cap' w' S' h2 h3 => hK _ _ (hk ao' cap' w' S' h2 h3)

/-- One step of a region that draws its order. -/
theorem step_append_sep {w : World} (hgd : o.guard = none) (s x : Operand) (t tx : TypeId) (ho : o.op = .call { callee := .builtin .append, args := #[s, x], argTypes := #[t, tx] })
    {l : List HP} {S : Fp} {ao : Option Addr} {n cap : Nat} {e : TypeId} {size bytes : Nat} {xs : List Value} (i : TypeInfo) (z : Value) (ht : P.underlying t = some (.slice e)) (hi : P.info? e = some i) (hz : i.zero = some z) (hsz : i.size = size) (hby : i.bytes = bytes) (hzs : z.cells.size = size)
    (hone : ∀ u ∈ xs, u.oneCell' = true) (hv : a.eval s = .slice ao n cap) (h : Sat (slHP ao n cap e size xs :: l) w S)
    (xv : Value) (hx : a.eval x = xv) (m : Nat) (news : List Value) (hs : Src P size tx xv m news w) (h63 : n + m ≤ maxLen) (hb : (n + m) * bytes ≤ 140737488355328)
    (hk : ∀ ao' cap' w' S', Sat (slHP ao' (n + m) cap' e size (xs ++ news) :: l) w' S' → Fr S S' w w' → K (a.put o.dst (.slice ao' (n + m) cap')) w') :
    if Region.wanted o (yielded ops a.tmps) = true then Oper.wp P o a w K Q else E := by
  rw [if_pos (by simp [Region.wanted, hgd])]
  exact wp_append_sep s x t tx ho i z ht hi hz hsz hby hzs hone hv h xv hx m news hs h63 hb hk

theorem Sat.setRow {l : List HP} {w : World} {S : Fp} {g : Nat} {cur : Array Value} {t : TypeId} (h : Sat (pt g cur t :: l) w S) (cs : Array Value) :
    Sat (pt g cs t :: l) (w.setRow g cs) S ∧ Fr S S w (w.setRow g cs) := by
  have hs := h.owns
  have i2 : ∀ k, k ≠ g → (w.setRow g cs).heap[k]? = w.heap[k]? := fun k hk => setRow_other w g k cs hk
  refine ⟨?_, rfl, rfl, rfl, by simp [World.setRow], fun k _ hk => i2 k (fun e => hk (e ▸ hs)), fun k s => .inl s⟩
  obtain ⟨S1, S2, ⟨h1, e1⟩, h2, hd, k1, k2, ho⟩ := h
  refine ⟨S1, S2, ⟨setRow_heap w g cur cs t _ h1, e1⟩, h2.frame fun k s => i2 k ?_, hd, k1, k2, by simpa [World.setRow] using ho⟩
  rintro rfl
  exact hd k ((e1 k).2 rfl) s

/-- copy into a row that is owned, as one step of a region that draws its order. -/
theorem step_copy_sep {w : World} (hgd : o.guard = none) (d s : Operand) (dT sT : TypeId)
    (ho : o.op = .call { callee := .builtin .copy, args := #[d, s], argTypes := #[dT, sT] }) (elem : TypeId) (hu : P.underlying dT = some (.slice elem)) (hsz : (P.info? elem).map (·.size) = some 1)
    (dp sp : Option Addr) (dLen dCap sLen sCap : Nat) (hd : a.eval d = .slice dp dLen dCap) (hs : a.eval s = .slice sp sLen sCap)
    (g off : Nat) (cur : List Value) (t : TypeId) {l : List HP} {S : Fp} (hS : Sat (pt g cur.toArray t :: l) w S) (cs : List Value) (hn : cs.length = Nat.min sLen dLen)
    (hpos : 0 < cs.length → dp = some ⟨g, off, none⟩ ∧ ∃ ad, sp = some ad ∧ ∀ j v, cs[j]? = some v → w.cell? (ad.add j) = some v)
    (hfit : off + cs.length ≤ cur.length) (h1 : ∀ v ∈ cs, v.oneCell' = true)
    (h : ∀ w', Sat (pt g (splice cur off cs).toArray t :: l) w' S → Fr S S w w' → K (a.put o.dst (goInt cs.length)) w') :
    if Region.wanted o (yielded ops a.tmps) = true then Oper.wp P o a w K Q else E := by
  have hg := hS.block (List.mem_cons_self ..)
  rw [if_pos (by simp [Region.wanted, hgd])]
  by_cases h0 : cs.length = 0
  · obtain rfl : cs = [] := List.eq_nil_of_length_eq_zero h0
    have hrun := run_copy_none (P := P) w dT sT o.type elem dp sp dLen dCap sLen sCap hu hsz (by simpa using hn.symm)
    unfold Oper.wp
    simp [execOp, ho, resolve, invoke, builtin, hd, hs, hrun, Result.andThen]
    exact h w (by simpa [splice] using hS) (Fr.refl S w)
  · obtain ⟨rfl, ad, rfl, hsrc⟩ := hpos (by omega)
    have hrun := run_copy_row (P := P) w dT sT o.type elem g off dLen dCap ad sLen sCap cur.toArray t cs hu hsz hg hn hsrc (by simpa using hfit) h1
    unfold Oper.wp
    simp [execOp, ho, resolve, invoke, builtin, hd, hs, hrun, Result.andThen]
    obtain ⟨h2, h3⟩ := hS.setRow (cur.take off ++ (cs ++ cur.drop (off + cs.length))).toArray
    exact h _ (by simpa [splice] using h2) (by simpa using h3)
end

end Go.Sep
