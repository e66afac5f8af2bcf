/- A range over a function, over owned memory. -/
import Derived.Test.YteholmfgefhgeaaSepB
import Derived.OwnWalkIn
import Derived.RangeFuncLeaves
import Derived.RangeFuncStops
import Derived.RangeFuncCalls
namespace Go.Sep
open Go.RowKit

theorem Sat.putObj {l : Nat} {o : Obj} {L : List HP} {w : World} {S : Fp} (h : Sat (pto l o :: L) w S) (o' : Obj) : Sat (pto l o' :: L) (w.putObj l o') S ∧ Fr S S w (w.putObj l o') := by
  have hs := h.owns
  have i2 : ∀ k, k ≠ l → (w.putObj l o').heap[k]? = w.heap[k]? := fun k hk => World.putObj_heap_other hk
  refine ⟨?_, rfl, rfl, rfl, by simp, fun k _ hk => i2 k (fun e => hk (e ▸ hs)), fun k s => .inl s⟩
  obtain ⟨S1, S2, ⟨h1, e1⟩, h2, hd, k1, k2, ho⟩ := h
  refine ⟨S1, S2, ⟨World.putObj_heap_same (lt_of_some h1), e1⟩, h2.frame fun k s => i2 k ?_, hd, k1, k2, by simpa using ho⟩
  rintro rfl
  exact hd k ((e1 k).2 rfl) s

/-- A step within its own blocks, beside a part that it does not touch. -/
theorem Sat.glue {A L' : List HP} {w w' : World} {S T1 T2 T2' : Fp} (h1 : Sat A w T1) (hd : ∀ k, T1 k → ¬ T2 k) (k1 : ∀ k, T1 k → S k) (k2 : ∀ k, T2 k → S k)
    (hL : Sat L' w' T2') (hfr : Fr T2 T2' w w') : ∃ S', Sat (A ++ L') w' S' ∧ Fr S S' w w' := by
  have h1' : Sat A w' T1 := h1.frame fun k s => hfr.same k (h1.old k s) (hd k s)
  have hd' : ∀ k, T1 k → ¬ T2' k := by
    intro k s s'
    rcases hfr.fresh k s' with s2 | s2
    · exact hd k s s2
    · have := h1.old k s
      omega
  refine ⟨fun k => T1 k ∨ T2' k, Sat.append_join h1' hL hd' (fun k s => .inl s) (fun k s => .inr s) ?_, hfr.os, hfr.tape, hfr.output, hfr.size, fun k hk hs => hfr.same k hk fun s => hs (k2 k s), ?_⟩
  · rintro k (s | s)
    · exact h1'.old k s
    · exact hL.old k s
  · rintro k (s | s)
    · exact .inl (k1 k s)
    · rcases hfr.fresh k s with s | s
      · exact .inl (k2 k s)
      · exact .inr s

/-- A loop's record. -/
def loopRec (fn : FuncId) (tmps : Array Value) (ps : Array Tmp) (assign body : Code) (D : Nat) (st : LoopState) (pe : Option Code) : Loop :=
  { state := st, pending := pe, fn, tmps, params := ps, assign, body, defers := D }

/-- Behind an iterator: all have come, or a round has said 'no more'. -/
def IPost (T : List HP) (Jx : List HP → Prop) (W : World) (S : Fp) (e : Ending) (W' : World) : Prop :=
  (∃ v, e = .returned v) ∧ ∃ L S', (L = T ∨ Jx L) ∧ Sat L W' S' ∧ Fr S S' W W'

/-- What an iterator does, whatever its rounds do: Rd: what it reads; the rounds leave that as it is. -/
def ITri {α : Type} (P : Program) (gf : FuncId) (lb : Array Value) (enc : α → Array Value) (Rd : List HP) (xs : List α) : Prop :=
  ∀ (l : Nat) (J : List α → List HP) (Jx : List HP → Prop) (fn : FuncId) (tm : α → Array Value) (assign body : Code),
    (∀ pre x suf, xs = pre ++ x :: suf → ∀ W S, Sat (Rd ++ J pre) W S →
      (Instr.yield l (enc x)).run P W = .ok (.round l fn (tm x) assign body) W ∧
      ∀ m, RoundIn Fence.wide m P l fn (tm x) assign body W fun e W' => ∃ b, e = .returned (.bool b) ∧ Hid (
        (b = true ∧ ∃ S', Sat (Rd ++ J (pre ++ [x])) W' S' ∧ Fr S S' W W') ∨ (b = false ∧ ∃ L S', Jx L ∧ Sat L W' S' ∧ Fr S S' W W'))) →
    ∀ W S, Sat (Rd ++ J []) W S → ∀ m, CallsIn Fence.wide m P gf (#[.func (.yield l) #[] #[]] ++ lb) W (IPost (Rd ++ J xs) Jx W S)

/-- How the body of a round may be left. -/
def rpost (T : List HP) (Ix : Code → List HP → Prop) (W : World) (S : Fp) : Exit → Act → World → Prop
  | .normal, _, W' => ∃ S', Sat T W' S' ∧ Fr S S' W W'
  | .ret, _, W' => ∃ L S', Ix .ret L ∧ Sat L W' S' ∧ Fr S S' W W'
  | .exit id, _, W' => ∃ L S', Ix (.exit id) L ∧ Sat L W' S' ∧ Fr S S' W W'
  | .goto t, _, W' => ∃ L S', Ix (.goto t) L ∧ Sat L W' S' ∧ Fr S S' W W'
  | .panic _, _, _ => False
  | .outgrown, _, _ => False

theorem wp_range_sep {α : Type} {P : Program} {n : Nat} {g : Operand} {ps : Array Tmp} {assign body : Code} {Q : Exit → Act → World → Prop} {a : Act} {w : World}
    {gf : FuncId} {lb : Array Value} (hg : a.eval g = .func (.func gf) #[] lb) (eg : ∀ args w, (callFunc gf args).run P w = .ok (.enter gf args) w)
    {enc : α → Array Value} {Rd : List HP} {xs : List α} (hit : ITri P gf lb enc Rd xs) (hps : ∀ x, (enc x).size = ps.size)
    (I : List α → List HP) (Ix : Code → List HP → Prop) {S : Fp} (h0 : Sat (Rd ++ I []) w S) (a₁ : α → Act)
    (hassign : ∀ (l : Nat) (x : α) (W : World) (K : Act → World → Prop) (m : Nat), K (a₁ x) W →
      assign.wpIn (Fence.wide.inRound l) m P (Exit.then K (fun _ _ _ => False)) { tmps := (ps.zip (enc x)).foldl (fun t (p, v) => t.setIfInBounds p v) a.tmps, defers := [] } W)
    (hbody : ∀ (l : Nat) (pre : List α) (x : α) (suf : List α), xs = pre ++ x :: suf → ∀ (W : World) (S : Fp) (m : Nat), Sat (Rd ++ I pre) W S →
      body.wpIn (Fence.wide.inRound l) m P (rpost (Rd ++ I (pre ++ [x])) Ix W S) (a₁ x) W)
    (hdone : ∀ (D : Nat) (W : World) (S' : Fp), Sat (pto D (.deferred (some [])) :: (Rd ++ I xs)) W S' → Fr S S' w W → Q .normal { a with defers := { target := .collected D, args := #[] } :: a.defers } W)
    (hstop : ∀ (D : Nat) (c : Code) (L : List HP) (W : World) (S' : Fp), Ix c L → Sat (pto D (.deferred (some [])) :: L) W S' → Fr S S' w W → c.wpIn Fence.wide n P Q { a with defers := { target := .collected D, args := #[] } :: a.defers } W) :
    (Code.rangeFunc g ps assign body).wpIn Fence.wide n P Q a w := by
  refine wpIn_rangeFunc ?_
  intro fn hfn
  obtain ⟨W1, hW1⟩ : ∃ W1, (w.alloc (.deferred (some []))).alloc (.loop (loopRec fn a.tmps ps assign body w.heap.size .ready none)) = W1 := ⟨_, rfl⟩
  have hent : (Instr.enterLoop fn a.tmps ps assign body none).run P w = .ok (w.heap.size + 1, [{ target := .collected w.heap.size, args := #[] }]) W1 := by
    rw [← hW1]
    exact run_enterLoop_outer fn a.tmps ps assign body
  obtain ⟨l, hl⟩ : ∃ l, w.heap.size + 1 = l := ⟨_, rfl⟩
  obtain ⟨D, hD⟩ : ∃ D, w.heap.size = D := ⟨_, rfl⟩
  have h1 : ∃ S1, Sat ([pto l (.loop (loopRec fn a.tmps ps assign body D .ready none)), pto D (.deferred (some []))] ++ (Rd ++ I [])) W1 S1 ∧ Fr S S1 w W1 := by
    have ha := (h0.alloc (.deferred (some []))).alloc (.loop (loopRec fn a.tmps ps assign body w.heap.size .ready none))
    have hf := ((Fr.refl S w).alloc (.deferred (some []))).alloc (.loop (loopRec fn a.tmps ps assign body w.heap.size .ready none))
    rw [World.size_alloc, hl, hW1, hD] at ha hf
    exact ⟨_, ha, hf⟩
  obtain ⟨S1, hS1, hF1⟩ := h1
  rw [hl, hD] at hent
  clear hW1 hl hD
  refine ⟨l, [{ target := .collected D, args := #[] }], W1, { target := .fn (.func gf) lb, args := #[.func (.yield l) #[] #[]] }, W1, gf, #[.func (.yield l) #[] #[]] ++ lb, W1, hent, ?_, ?_, ?_, fun h => by simp [Fence.wide] at h, ?_⟩
  · simp only [resolve, hg]
    simp [go_sem]
  · intro f' _
    trivial
  · simp [invoke, go_sem, eg]
  · -- the iterator's contract, with the record and the block for deferred calls beside the invariant
    refine (hit l (fun pre => [pto l (.loop (loopRec fn a.tmps ps assign body D .ready none)), pto D (.deferred (some []))] ++ I pre)
      (fun L => ∃ c L', Ix c L' ∧ L = [pto l (.loop (loopRec fn a.tmps ps assign body D .done (some c))), pto D (.deferred (some []))] ++ L') fn (fun x => (ps.zip (enc x)).foldl (fun tmps (t, a) => tmps.setIfInBounds t a) a.tmps) assign body ?round W1 S1 (hS1.perm ?pm) (n - 1)).mono ?main
    case main =>
      rintro e W2 ⟨⟨v, rfl⟩, L, S2, (rfl | ⟨c, L', hc, rfl⟩), hS2, hF2⟩
      · have hS2' : Sat ([pto l (.loop (loopRec fn a.tmps ps assign body D .ready none)), pto D (.deferred (some []))] ++ (Rd ++ I xs)) W2 S2 := by
          refine hS2.perm ?_
          rw [← List.append_assoc, ← List.append_assoc]
          exact List.Perm.append_right _ List.perm_append_comm
        have hb := hS2'.block (b := l) (List.mem_cons_self ..)
        obtain ⟨hS3, hF3⟩ := hS2'.putObj (.loop (loopRec fn a.tmps ps assign body D .exhausted none))
        have hend : (Instr.endLoop l).run P W2 = .ok none (W2.putObj l (.loop (loopRec fn a.tmps ps assign body D .exhausted none))) := run_endLoop (P := P) hb (by intro h; cases h)
        exact ⟨none, _, hend, hdone D _ S2 hS3.tail ((hF1.trans hF2).trans hF3)⟩
      · have hb := hS2.block (b := l) (List.mem_cons_self ..)
        obtain ⟨hS3, hF3⟩ := hS2.putObj (.loop (loopRec fn a.tmps ps assign body D .exhausted (some c)))
        have hend : (Instr.endLoop l).run P W2 = .ok (some c) (W2.putObj l (.loop (loopRec fn a.tmps ps assign body D .exhausted (some c)))) := run_endLoop (P := P) hb (by intro h; cases h)
        exact ⟨some c, _, hend, hstop D c L' _ S2 hc hS3.tail ((hF1.trans hF2).trans hF3)⟩
    case pm =>
      rw [← List.append_assoc, ← List.append_assoc]
      exact List.Perm.append_right _ List.perm_append_comm
    case round =>
      intro pre x suf hx W SW hSW
      have hSW' : Sat ([pto l (.loop (loopRec fn a.tmps ps assign body D .ready none)), pto D (.deferred (some []))] ++ (Rd ++ I pre)) W SW := by
        refine hSW.perm ?_
        rw [← List.append_assoc, ← List.append_assoc]
        exact List.Perm.append_right _ List.perm_append_comm
      have hb := hSW'.block (b := l) (List.mem_cons_self ..)
      have hy : (Instr.yield l (enc x)).run P W = .ok (.round l fn ((ps.zip (enc x)).foldl (fun tmps (t, a) => tmps.setIfInBounds t a) a.tmps) assign body) W := by
        exact run_yield (P := P) (args := enc x) hb (hps x)
      have hbg : (Instr.beginRound l).run P W = .ok () (W.putObj l (.loop (loopRec fn a.tmps ps assign body D .busy none))) := run_beginRound (P := P) hb rfl
      refine ⟨hy, fun m => roundIn_of_wpIn hfn (hassign l x W _ m ⟨_, hbg, ?_⟩)⟩
      obtain ⟨hS2, hF2⟩ := hSW'.putObj (.loop (loopRec fn a.tmps ps assign body D .busy none))
      generalize W.putObj l (.loop (loopRec fn a.tmps ps assign body D .busy none)) = W2 at hS2 hF2 ⊢
      obtain ⟨T1, T2, t1, t2, td, tk1, tk2⟩ := Sat.append_split (l := [pto l (.loop (loopRec fn a.tmps ps assign body D .busy none)), pto D (.deferred (some []))]) (l' := Rd ++ I pre) hS2
      refine wpIn_mono (hbody l pre x suf hx W2 T2 m t2) ?_
      have fin : ∀ (jump : Option Code) (L : List HP) (W3 : World) (S3 : Fp), Sat L W3 S3 → Fr T2 S3 W2 W3 →
          ∃ S4 W4, (Instr.endRound l jump).run P W3 = .ok (.bool jump.isNone) W4 ∧
            Sat ([pto l (.loop (loopRec fn a.tmps ps assign body D (if jump.isNone then .ready else .done) jump)), pto D (.deferred (some []))] ++ L) W4 S4 ∧ Fr SW S4 W W4 := by
        intro jump L W3 S3 h3 f3
        obtain ⟨S4, hS4, hF4⟩ := Sat.glue t1 td tk1 tk2 h3 f3
        have hb3 := hS4.block (b := l) (List.mem_cons_self ..)
        have hend : (Instr.endRound l jump).run P W3 = .ok (.bool jump.isNone) (W3.putObj l (.loop (loopRec fn a.tmps ps assign body D (if jump.isNone then .ready else .done) jump))) := run_endRound (P := P) jump hb3
        obtain ⟨hS5, hF5⟩ := hS4.putObj (.loop (loopRec fn a.tmps ps assign body D (if jump.isNone then .ready else .done) jump))
        exact ⟨S4, _, hend, hS5, (hF2.trans hF4).trans hF5⟩
      rintro e a3 W3 hp
      cases e with
      | normal =>
        obtain ⟨S3, h3, f3⟩ := hp
        obtain ⟨S4, W4, hr, hS4, hF4⟩ := fin none _ W3 S3 h3 f3
        refine ⟨_, _, hr, _, rfl, .inl ⟨rfl, S4, hS4.perm ?_, hF4⟩⟩
        rw [← List.append_assoc, ← List.append_assoc]
        exact List.Perm.append_right _ List.perm_append_comm
      | ret =>
        obtain ⟨L, S3, hc, h3, f3⟩ := hp
        obtain ⟨S4, W4, hr, hS4, hF4⟩ := fin (some .ret) L W3 S3 h3 f3
        exact ⟨_, _, hr, _, rfl, .inr ⟨rfl, _, S4, ⟨.ret, L, hc, rfl⟩, hS4, hF4⟩⟩
      | exit id =>
        obtain ⟨L, S3, hc, h3, f3⟩ := hp
        obtain ⟨S4, W4, hr, hS4, hF4⟩ := fin (some (.exit id)) L W3 S3 h3 f3
        exact ⟨_, _, hr, _, rfl, .inr ⟨rfl, _, S4, ⟨.exit id, L, hc, rfl⟩, hS4, hF4⟩⟩
      | goto t =>
        obtain ⟨L, S3, hc, h3, f3⟩ := hp
        obtain ⟨S4, W4, hr, hS4, hF4⟩ := fin (some (.goto t)) L W3 S3 h3 f3
        exact ⟨_, _, hr, _, rfl, .inr ⟨rfl, _, S4, ⟨.goto t, L, hc, rfl⟩, hS4, hF4⟩⟩
      | panic ch => exact hp.elim
      | outgrown => exact hp.elim

/-- The function's return behind such a loop. -/
theorem leaves_mark {P : Program} {n : Nat} {fn : Func} {tmps : Array Value} {R : Ending → World → Prop} {D : Nat} {w : World} {L : List HP} {S : Fp} {v : Value} (hS : Sat (pto D (.deferred (some [])) :: L) w S)
    (hv : ∀ w', (results fn tmps).run P w' = .ok v w') (hR : ∀ w', Sat L w' S → Fr S S w w' → R (.returned v) w') :
    LeavesInM Fence.wide n P fn tmps R [{ target := .collected D, args := #[] }] .returning w := by
  have hb := hS.block (b := D) (List.mem_cons_self ..)
  obtain ⟨hS2, hF2⟩ := hS.putObj (.deferred none)
  exact ⟨by simp, .inl ⟨_, _, rfl, run_takeDeferred hb, _, hv _, hR _ hS2.tail hF2⟩⟩

theorem wpListIn_append_sep {P : Program} {F : Fence} {nn : Nat} {ops : Array Oper} {rest : List Oper} {o : Oper} {a : Act} {Q : Exit → Act → World → Prop} {w : World} (hgd : o.guard = none) (s x : Operand) (t tx : TypeId) (ho : o.op = .call { callee := .builtin .append, args := #[s, x], argTypes := #[t, tx] })
    {l : List HP} {S : Fp} {ao : Option Addr} {n cap : Nat} {e : TypeId} {size bytes : Nat} {xs : List Value} (i : TypeInfo) (z : Value) (ht : P.underlying t = some (.slice e)) (hi : P.info? e = some i) (hz : i.zero = some z) (hsz : i.size = size) (hby : i.bytes = bytes) (hzs : z.cells.size = size)
    (hone : ∀ u ∈ xs, u.oneCell' = true) (hv : a.eval s = .slice ao n cap) (h : Sat (slHP ao n cap e size xs :: l) w S)
    (xv : Value) (hx : a.eval x = xv) (m : Nat) (news : List Value) (hs : Src P size tx xv m news w) (h63 : n + m ≤ maxLen) (hb : (n + m) * bytes ≤ 140737488355328)
    (hk : ∀ ao' cap' w' S', Sat (slHP ao' (n + m) cap' e size (xs ++ news) :: l) w' S' → Fr S S' w w' → wpListIn F nn P ops Q rest (a.put o.dst (.slice ao' (n + m) cap')) w') : wpListIn F nn P ops Q (o :: rest) a w := by
  refine wpListIn_plain hgd fun K hK' => ?_
  obtain ⟨ao', cap', w', S', hrun, h2, h3⟩ := run_append_sep (P := P) h t tx o.type i z ht hi hz hsz hby hzs hone xv m news hs h63 hb
  unfold Oper.wpIn
  refine ⟨?_, ?_⟩
  · simp [Oper.about, ho, resolve, Target.leads, Sem.run_pure]
  · rw [Oper.semAt_plain F _ _ (by rw [ho]; intro c hc'; cases hc')]
    simp [execOp, ho, resolve, invoke, builtin, hv, hx, hrun, Result.andThen]
    exact hK' _ _ (hk ao' cap' w' S' h2 h3)
end Go.Sep
