/- The law's own helpers on the ring. -/
import Derived.Test.YteholmfgefhgeaaRingI
import Derived.Test.YteholmfgefhgeaaRefT
namespace Go.Proofs.Yteholmfgefhgeaa
open Go.RowKit Go.Sep Go.Shelf
attribute [local go_sem] Oper.semAt_some

/-- A list of numbers in a variable of its own. -/
def boxHP (b : Nat) (q : List Int) : HP :=
  exs (fun _ : Option Addr × Nat => True) (fun x => [pt b #[.slice x.1 q.length x.2] 32, slHP x.1 q.length x.2 3 1 (q.map (Value.int .i64))])

def AllPost (p most : Nat) (q : List Int) (e : Ending) (L : List HP) : Prop :=
  ∃ ao cap, e = .returned (.tuple #[.slice ao q.length cap, .bool true]) ∧ L = [slHP ao q.length cap 3 1 (q.map (Value.int .i64)), ringHP p most q]

def TEnd (Q : Ending → List HP → Prop) (w : World) (S : Fp) (e : Ending) (w' : World) : Prop := ∃ L S', Q e L ∧ Sat L w' S' ∧ Fr S S' w w'

theorem func_not_nil (w : World) (fn : Fn) (c : Array Value) : (binOp .eql 48 (.func fn #[] c) .nilFunc).run Try.prog w = .ok (.bool false) w := by kernel_rfl

set_option maxHeartbeats 1000000 in
theorem all_any (p most : Nat) (q : List Int) :
    Tri Try.prog 9 #[.pointer (some ⟨p, 0, none⟩)] [ringHP p most q] (AllPost p most q) := by
  intro w S hS
  show Calls _ _ _ _ (TEnd (AllPost p most q) w S)
  refine (callsIn_wide (n := 9)).1 ?_
  have HA := (All_any p).call (F := [ringHP p most q]) hS
  have hql : q.length ≤ 4096 := by
    obtain ⟨⟨lb, f, buf⟩, ⟨h5, h1, h2, h3, h4, hqe⟩, hS1⟩ := hS.unfold
    omega
  have HQ := Lib.hid hql
  clear hql
  have hnf := func_not_nil
  refine callsIn_of_wp_marks Try.func9 rfl trivial ?_
  simp only [Try.ntmps9, List.size_toArray, List.length_cons, List.length_nil, Nat.reduceAdd, Nat.reduceSub, Array.replicate_succ, Array.replicate_zero, List.push_toArray, List.append_toArray, List.nil_append, List.cons_append]
  gi_wp2_with (refine ⟨trivial, ?_⟩; gi_at_call 22; refine (callsIn_wide.2 HA).mono ?_; rintro e w1 ⟨L, S1, ⟨B, rfl, rfl⟩, hS1, hF1⟩)
  have hp1 : Sat ([pt B #[.pointer (some ⟨p, 0, none⟩)] 24, ringHP p most q] ++ [boxHP w1.heap.size []]) (w1.alloc (.cells #[.slice none 0 0] 32)) (fun k => S1 k ∨ k = w1.heap.size) := by
    have h := hS1.alloc (.cells #[.slice none 0 0] 32)
    have h2 : Sat (slHP none 0 0 3 1 [] :: pto w1.heap.size (.cells #[.slice none 0 0] 32) :: ([pt B #[.pointer (some ⟨p, 0, none⟩)] 24] ++ [ringHP p most q])) _ _ := sl_nil 3 1 h
    have h3 : Sat (boxHP w1.heap.size [] :: ([pt B #[.pointer (some ⟨p, 0, none⟩)] 24] ++ [ringHP p most q])) _ _ := Sat.fold (none, 0) trivial h2.swap
    exact h3.perm (List.perm_append_comm (l₁ := [_]) (l₂ := [_, _]))
  have hf1 := hF1.alloc (.cells #[.slice none 0 0] 32)
  generalize w1.heap.size = bl at hp1 hf1 ⊢
  generalize w1.alloc (.cells #[.slice none 0 0] 32) = w2 at hp1 hf1 ⊢
  have HF := Lib.hid hf1
  clear hS1 hF1 hf1
  obtain ⟨i0, hi, hz0, hz1, hz2⟩ := info_parts infoInt
  refine wp_range_sep (gf := 30) (lb := #[.pointer (some ⟨B, 0, none⟩)]) rfl (enters_of Try.func30 (by kernel_rfl) rfl) (All1_it B p most q) (fun _ => rfl) (fun pre => [boxHP bl pre]) (fun _ _ => False) hp1
    (fun x => { tmps := #[.pointer (some ⟨p, 0, none⟩), undef, .slice none 0 0, .bool false, .func (.func 30) #[] #[.pointer (some ⟨B, 0, none⟩)], .pointer (some ⟨bl, 0, none⟩), .int .i64 x, .pointer (some ⟨p, 0, none⟩), .func (.func 30) #[] #[.pointer (some ⟨B, 0, none⟩)], .func (.func 30) #[] #[.pointer (some ⟨B, 0, none⟩)], .bool false, .func (.func 30) #[] #[.pointer (some ⟨B, 0, none⟩)], .int .i64 x, undef, undef, undef, undef, undef], defers := [] }) ?assign ?body ?done ?stop
  case assign =>
    intro l x W K m hK
    gi_wp2
    exact hK
  case body =>
    intro l pre x suf hx W S3 m hS3
    have hlen : pre.length + 1 ≤ 4096 := by have := HQ.out; have h := congrArg List.length hx; simp at h; omega
    obtain ⟨⟨ao, cap⟩, -, hS4⟩ := (hS3.perm (List.perm_append_comm (l₁ := [_, _]) (l₂ := [_]))).unfold
    dsimp only at hS4
    have hb := hS4.block (List.mem_cons_self ..)
    have c0 : W.cell? ⟨bl, 0, none⟩ = some (.slice ao pre.length cap) := (cell_of_block (o := 0) hb).trans (by rfl)
    have f0 := free_of_block (o := 0) hb
    have hlt := hS4.old bl hS4.owns
    have hA := hS4.alloc (.cells #[.int .i64 x] 3)
    have hSrc := src_one (P := Try.prog) hA 32 Try.underlying32 rfl
    have HA := Lib.hid (And.intro hS4 hx)
    have HB := Lib.hid hA
    clear hb hS3 hS4 hx hA
    gi_wp2_with (gi_at_builtin; refine wpListIn_append_sep rfl (.tmp 13) (.tmp 15) 32 32 rfl i0 (.int .i64 0) Try.underlying32 hi hz0 hz1 hz2 rfl (one_ints _ _) rfl (HB.out.tail.swap) _ rfl _ _ hSrc (by simp [maxLen]; omega) (by omega) ?_
                 intro ao2 cap2 w3 S5 hS5 hF5
                 have hb3 := hS5.block (b := bl) (List.mem_cons_of_mem _ (List.mem_cons_self ..))
                 have f3 := free_of_block (o := 0) hb3
                 have c3 := (cell_of_block (o := 0) hb3).trans (by rfl)
                 have HS5 := Lib.hid hS5
                 have HF5 := Lib.hid hF5
                 clear hS5 hF5 hb3 hSrc)
    have h1 := HS5.out.swap.set 0 (.slice ao2 (pre.length + 1) cap2)
    have h2 : Sat (boxHP bl (pre ++ [x]) :: [pt B #[.pointer (some ⟨p, 0, none⟩)] 24, ringHP p most q]) (w3.setCell ⟨bl, 0, none⟩ (.slice ao2 (pre.length + 1) cap2)) S5 := by
      refine Sat.fold (ao2, cap2) trivial ?_
      have e1 : (pre ++ [x]).length = pre.length + 1 := by simp
      have e2 : (pre ++ [x]).map (Value.int .i64) = pre.map (Value.int .i64) ++ [.int .i64 x] := by simp
      rw [e1, e2]
      exact h1
    exact ⟨S5, h2.perm (List.perm_append_comm (l₁ := [_]) (l₂ := [_, _])), (((Fr.refl S3 W).alloc _).trans HF5.out).setCell HS5.out.swap.owns⟩
  case done =>
    intro D W S3 hS3 hF3
    have h1 : Sat (boxHP bl q :: [pto D (.deferred (some [])), pt B #[.pointer (some ⟨p, 0, none⟩)] 24, ringHP p most q]) W S3 := hS3.perm (List.perm_append_comm (l₁ := [_, _, _]) (l₂ := [_]))
    obtain ⟨⟨ao, cap⟩, -, h2⟩ := h1.unfold
    have hb := h2.block (List.mem_cons_self ..)
    have c0 : W.cell? ⟨bl, 0, none⟩ = some (.slice ao q.length cap) := (cell_of_block (o := 0) hb).trans (by rfl)
    have H2 : Hid (Sat ([slHP ao q.length cap 3 1 (q.map (Value.int .i64))] ++ [pto D (.deferred (some [])), pt B #[.pointer (some ⟨p, 0, none⟩)] 24, ringHP p most q]) W S3) := h2.tail
    have HF3 := Lib.hid hF3
    clear hb h1 h2 hS3 hF3
    gi_wp2
    have h3 : Sat (pto D (.deferred (some [])) :: pt B #[.pointer (some ⟨p, 0, none⟩)] 24 :: [slHP ao q.length cap 3 1 (q.map (Value.int .i64)), ringHP p most q]) W S3 := by
      refine H2.out.perm ?_
      exact (List.Perm.swap _ _ _).trans (List.Perm.cons _ (List.Perm.swap _ _ _))
    refine leaves_mark h3 (fun w' => results_tmp2 rfl _ _ _) ?_
    intro w' hw' hf'
    exact ⟨_, S3, ⟨ao, cap, rfl, rfl⟩, hw'.tail, (HF.out.trans HF3.out).trans hf'⟩
  case stop =>
    intro D c L W S3 h
    exact h.elim
end Go.Proofs.Yteholmfgefhgeaa
