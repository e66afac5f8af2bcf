/- The law's act, on both queues. -/
import Derived.Test.YteholmfgefhgeaaRingJ
import Derived.Test.YteholmfgefhgeaaInts
namespace Go.Proofs.Yteholmfgefhgeaa
open Go.RowKit Go.Sep

abbrev both (p p2 most : Nat) (q : List Int) : List HP := [ringHP p most q, refHP p2 most q]

abbrev actArgs (p p2 : Nat) (k x : Int) : Array Value := #[.pointer (some ⟨p, 0, none⟩), .pointer (some ⟨p2, 0, none⟩), .agg #[.int .i64 k, .int .i64 x]]

def Told (p p2 most : Nat) (q : List Int) (e : Ending) (L : List HP) : Prop := e = .returned (.bool true) ∧ L = both p p2 most q


set_option maxHeartbeats 1000000 in
theorem act0_room (p p2 most : Nat) (q : List Int) (x : Int) (hq : q.length < most) :
    Tri Try.prog 7 (actArgs p p2 0 x) (both p p2 most q) (Told p p2 most (q ++ [x])) := by
  intro w S hS
  show Calls _ _ _ _ (TEnd _ w S)
  have hA := hS.alloc (.cells #[.int .i64 0, .int .i64 x] 29)
  have hFA := (Fr.refl S w).alloc (.cells #[.int .i64 0, .int .i64 x] 29)
  go_enter Try.func7, Try.ntmps7
  have C1 := Push_room p most q x hq
  have C2 := RPush_room p2 most q x hq
  clear hq
  go_wp2
  obtain ⟨W, hW⟩ : ∃ W, W = w.alloc (.cells #[.int .i64 0, .int .i64 x] 29) := ⟨_, rfl⟩
  rw [← hW] at hA hFA ⊢
  generalize w.heap.size = bx at hA hFA ⊢
  have c1 : W.cell? ⟨bx, 1, none⟩ = some (.int .i64 x) := (cell_of_block (o := 1) (hA.block (List.mem_cons_self ..))).trans (by rfl)
  have HF := Lib.hid hFA
  have H0 := Lib.hid (Sat.perm (List.perm_append_comm (l₁ := [_]) (l₂ := [_, _])) hA)
  clear hW hA hFA hS
  go_region_held3 (fun w' => w'.cell? ⟨bx, 1, none⟩ = some (.int .i64 x)) (go_keep) (first
    | (go_at_call 11
       refine (C1.call (F := [refHP p2 most q, pt bx #[.int .i64 0, .int .i64 x] 29]) H0.out.drew).mono ?_
       rintro e w1 ⟨L, S1, ⟨rfl, rfl⟩, hS1, hF1⟩
       have k1 : w1.cell? ⟨bx, 1, none⟩ = some (.int .i64 x) := (cell_of_block (o := 1) (hS1.block (b := bx) (by simp; exact .inr (.inr rfl)))).trans (by rfl)
       have H1 := Lib.hid (Sat.perm (List.Perm.swap _ _ _) hS1)
       have HF1 := Lib.hid hF1
       clear hS1 hF1)
    | (go_at_call 13
       refine (C2.call (F := [ringHP p most (q ++ [x]), pt bx #[.int .i64 0, .int .i64 x] 29]) H1.out).mono ?_
       rintro e w2 ⟨L, S2, ⟨rfl, rfl⟩, hS2, hF2⟩
       have k2 : w2.cell? ⟨bx, 1, none⟩ = some (.int .i64 x) := (cell_of_block (o := 1) (hS2.block (b := bx) (by simp; exact .inr (.inr rfl)))).trans (by rfl)
       have H2 := Lib.hid (Sat.perm (List.perm_append_comm (l₁ := [_, _]) (l₂ := [_])) (Sat.perm (List.Perm.swap _ _ _) hS2))
       have HF2 := Lib.hid hF2
       clear hS2 hF2))
  go_wp2
  go_ret
  exact ⟨_, S2, ⟨rfl, rfl⟩, H2.out.tail, (HF.out.drew.trans HF1.out).trans HF2.out⟩

set_option maxHeartbeats 1000000 in
theorem act0_full (p p2 most : Nat) (q : List Int) (x : Int) (hq : q.length = most) :
    Tri Try.prog 7 (actArgs p p2 0 x) (both p p2 most q) (Told p p2 most q) := by
  intro w S hS
  show Calls _ _ _ _ (TEnd _ w S)
  have hA := hS.alloc (.cells #[.int .i64 0, .int .i64 x] 29)
  have hFA := (Fr.refl S w).alloc (.cells #[.int .i64 0, .int .i64 x] 29)
  go_enter Try.func7, Try.ntmps7
  have C1 := Push_full p most q x hq
  have C2 := RPush_full p2 most q x hq
  clear hq
  go_wp2
  obtain ⟨W, hW⟩ : ∃ W, W = w.alloc (.cells #[.int .i64 0, .int .i64 x] 29) := ⟨_, rfl⟩
  rw [← hW] at hA hFA ⊢
  generalize w.heap.size = bx at hA hFA ⊢
  have c1 : W.cell? ⟨bx, 1, none⟩ = some (.int .i64 x) := (cell_of_block (o := 1) (hA.block (List.mem_cons_self ..))).trans (by rfl)
  have HF := Lib.hid hFA
  have H0 := Lib.hid (Sat.perm (List.perm_append_comm (l₁ := [_]) (l₂ := [_, _])) hA)
  clear hW hA hFA hS
  go_region_held3 (fun w' => w'.cell? ⟨bx, 1, none⟩ = some (.int .i64 x)) (go_keep) (first
    | (go_at_call 11
       refine (C1.call (F := [refHP p2 most q, pt bx #[.int .i64 0, .int .i64 x] 29]) H0.out.drew).mono ?_
       rintro e w1 ⟨L, S1, ⟨rfl, rfl⟩, hS1, hF1⟩
       have k1 : w1.cell? ⟨bx, 1, none⟩ = some (.int .i64 x) := (cell_of_block (o := 1) (hS1.block (b := bx) (by simp; exact .inr (.inr rfl)))).trans (by rfl)
       have H1 := Lib.hid (Sat.perm (List.Perm.swap _ _ _) hS1)
       have HF1 := Lib.hid hF1
       clear hS1 hF1)
    | (go_at_call 13
       refine (C2.call (F := [ringHP p most (q), pt bx #[.int .i64 0, .int .i64 x] 29]) H1.out).mono ?_
       rintro e w2 ⟨L, S2, ⟨rfl, rfl⟩, hS2, hF2⟩
       have k2 : w2.cell? ⟨bx, 1, none⟩ = some (.int .i64 x) := (cell_of_block (o := 1) (hS2.block (b := bx) (by simp; exact .inr (.inr rfl)))).trans (by rfl)
       have H2 := Lib.hid (Sat.perm (List.perm_append_comm (l₁ := [_, _]) (l₂ := [_])) (Sat.perm (List.Perm.swap _ _ _) hS2))
       have HF2 := Lib.hid hF2
       clear hS2 hF2))
  go_wp2
  go_ret
  exact ⟨_, S2, ⟨rfl, rfl⟩, H2.out.tail, (HF.out.drew.trans HF1.out).trans HF2.out⟩

set_option maxHeartbeats 1000000 in
theorem act1_room (p p2 most : Nat) (q : List Int) (x : Int) (hq : q.length < most) :
    Tri Try.prog 7 (actArgs p p2 1 x) (both p p2 most q) (Told p p2 most (x :: q)) := by
  intro w S hS
  show Calls _ _ _ _ (TEnd _ w S)
  have hA := hS.alloc (.cells #[.int .i64 1, .int .i64 x] 29)
  have hFA := (Fr.refl S w).alloc (.cells #[.int .i64 1, .int .i64 x] 29)
  go_enter Try.func7, Try.ntmps7
  have C1 := Front_room p most q x hq
  have C2 := RFront_room p2 most q x hq
  clear hq
  go_wp2
  obtain ⟨W, hW⟩ : ∃ W, W = w.alloc (.cells #[.int .i64 1, .int .i64 x] 29) := ⟨_, rfl⟩
  rw [← hW] at hA hFA ⊢
  generalize w.heap.size = bx at hA hFA ⊢
  have c1 : W.cell? ⟨bx, 1, none⟩ = some (.int .i64 x) := (cell_of_block (o := 1) (hA.block (List.mem_cons_self ..))).trans (by rfl)
  have HF := Lib.hid hFA
  have H0 := Lib.hid (Sat.perm (List.perm_append_comm (l₁ := [_]) (l₂ := [_, _])) hA)
  clear hW hA hFA hS
  go_region_held3 (fun w' => w'.cell? ⟨bx, 1, none⟩ = some (.int .i64 x)) (go_keep) (first
    | (go_at_call 14
       refine (C1.call (F := [refHP p2 most q, pt bx #[.int .i64 1, .int .i64 x] 29]) H0.out.drew).mono ?_
       rintro e w1 ⟨L, S1, ⟨rfl, rfl⟩, hS1, hF1⟩
       have k1 : w1.cell? ⟨bx, 1, none⟩ = some (.int .i64 x) := (cell_of_block (o := 1) (hS1.block (b := bx) (by simp; exact .inr (.inr rfl)))).trans (by rfl)
       have H1 := Lib.hid (Sat.perm (List.Perm.swap _ _ _) hS1)
       have HF1 := Lib.hid hF1
       clear hS1 hF1)
    | (go_at_call 15
       refine (C2.call (F := [ringHP p most (x :: q), pt bx #[.int .i64 1, .int .i64 x] 29]) H1.out).mono ?_
       rintro e w2 ⟨L, S2, ⟨rfl, rfl⟩, hS2, hF2⟩
       have k2 : w2.cell? ⟨bx, 1, none⟩ = some (.int .i64 x) := (cell_of_block (o := 1) (hS2.block (b := bx) (by simp; exact .inr (.inr rfl)))).trans (by rfl)
       have H2 := Lib.hid (Sat.perm (List.perm_append_comm (l₁ := [_, _]) (l₂ := [_])) (Sat.perm (List.Perm.swap _ _ _) hS2))
       have HF2 := Lib.hid hF2
       clear hS2 hF2))
  go_wp2
  go_ret
  exact ⟨_, S2, ⟨rfl, rfl⟩, H2.out.tail, (HF.out.drew.trans HF1.out).trans HF2.out⟩

set_option maxHeartbeats 1000000 in
theorem act1_full (p p2 most : Nat) (q : List Int) (x : Int) (hq : q.length = most) :
    Tri Try.prog 7 (actArgs p p2 1 x) (both p p2 most q) (Told p p2 most q) := by
  intro w S hS
  show Calls _ _ _ _ (TEnd _ w S)
  have hA := hS.alloc (.cells #[.int .i64 1, .int .i64 x] 29)
  have hFA := (Fr.refl S w).alloc (.cells #[.int .i64 1, .int .i64 x] 29)
  go_enter Try.func7, Try.ntmps7
  have C1 := Front_full p most q x hq
  have C2 := RFront_full p2 most q x hq
  clear hq
  go_wp2
  obtain ⟨W, hW⟩ : ∃ W, W = w.alloc (.cells #[.int .i64 1, .int .i64 x] 29) := ⟨_, rfl⟩
  rw [← hW] at hA hFA ⊢
  generalize w.heap.size = bx at hA hFA ⊢
  have c1 : W.cell? ⟨bx, 1, none⟩ = some (.int .i64 x) := (cell_of_block (o := 1) (hA.block (List.mem_cons_self ..))).trans (by rfl)
  have HF := Lib.hid hFA
  have H0 := Lib.hid (Sat.perm (List.perm_append_comm (l₁ := [_]) (l₂ := [_, _])) hA)
  clear hW hA hFA hS
  go_region_held3 (fun w' => w'.cell? ⟨bx, 1, none⟩ = some (.int .i64 x)) (go_keep) (first
    | (go_at_call 14
       refine (C1.call (F := [refHP p2 most q, pt bx #[.int .i64 1, .int .i64 x] 29]) H0.out.drew).mono ?_
       rintro e w1 ⟨L, S1, ⟨rfl, rfl⟩, hS1, hF1⟩
       have k1 : w1.cell? ⟨bx, 1, none⟩ = some (.int .i64 x) := (cell_of_block (o := 1) (hS1.block (b := bx) (by simp; exact .inr (.inr rfl)))).trans (by rfl)
       have H1 := Lib.hid (Sat.perm (List.Perm.swap _ _ _) hS1)
       have HF1 := Lib.hid hF1
       clear hS1 hF1)
    | (go_at_call 15
       refine (C2.call (F := [ringHP p most (q), pt bx #[.int .i64 1, .int .i64 x] 29]) H1.out).mono ?_
       rintro e w2 ⟨L, S2, ⟨rfl, rfl⟩, hS2, hF2⟩
       have k2 : w2.cell? ⟨bx, 1, none⟩ = some (.int .i64 x) := (cell_of_block (o := 1) (hS2.block (b := bx) (by simp; exact .inr (.inr rfl)))).trans (by rfl)
       have H2 := Lib.hid (Sat.perm (List.perm_append_comm (l₁ := [_, _]) (l₂ := [_])) (Sat.perm (List.Perm.swap _ _ _) hS2))
       have HF2 := Lib.hid hF2
       clear hS2 hF2))
  go_wp2
  go_ret
  exact ⟨_, S2, ⟨rfl, rfl⟩, H2.out.tail, (HF.out.drew.trans HF1.out).trans HF2.out⟩

set_option maxHeartbeats 1000000 in
theorem act4_none (p p2 most : Nat) (q : List Int) (x : Int) (hq : x ∉ q) :
    Tri Try.prog 7 (actArgs p p2 4 x) (both p p2 most q) (Told p p2 most q) := by
  intro w S hS
  show Calls _ _ _ _ (TEnd _ w S)
  have hA := hS.alloc (.cells #[.int .i64 4, .int .i64 x] 29)
  have hFA := (Fr.refl S w).alloc (.cells #[.int .i64 4, .int .i64 x] 29)
  go_enter Try.func7, Try.ntmps7
  have C1 := Remove_none p most q x hq
  have C2 := RRemove_none p2 most q x hq
  clear hq
  go_wp2
  obtain ⟨W, hW⟩ : ∃ W, W = w.alloc (.cells #[.int .i64 4, .int .i64 x] 29) := ⟨_, rfl⟩
  rw [← hW] at hA hFA ⊢
  generalize w.heap.size = bx at hA hFA ⊢
  have c1 : W.cell? ⟨bx, 1, none⟩ = some (.int .i64 x) := (cell_of_block (o := 1) (hA.block (List.mem_cons_self ..))).trans (by rfl)
  have HF := Lib.hid hFA
  have H0 := Lib.hid (Sat.perm (List.perm_append_comm (l₁ := [_]) (l₂ := [_, _])) hA)
  clear hW hA hFA hS
  go_region_held3 (fun w' => w'.cell? ⟨bx, 1, none⟩ = some (.int .i64 x)) (go_keep) (first
    | (go_at_call 19
       refine (C1.call (F := [refHP p2 most q, pt bx #[.int .i64 4, .int .i64 x] 29]) H0.out.drew).mono ?_
       rintro e w1 ⟨L, S1, ⟨rfl, rfl⟩, hS1, hF1⟩
       have k1 : w1.cell? ⟨bx, 1, none⟩ = some (.int .i64 x) := (cell_of_block (o := 1) (hS1.block (b := bx) (by simp; exact .inr (.inr rfl)))).trans (by rfl)
       have H1 := Lib.hid (Sat.perm (List.Perm.swap _ _ _) hS1)
       have HF1 := Lib.hid hF1
       clear hS1 hF1)
    | (go_at_call 20
       refine (C2.call (F := [ringHP p most (q), pt bx #[.int .i64 4, .int .i64 x] 29]) H1.out).mono ?_
       rintro e w2 ⟨L, S2, ⟨rfl, rfl⟩, hS2, hF2⟩
       have k2 : w2.cell? ⟨bx, 1, none⟩ = some (.int .i64 x) := (cell_of_block (o := 1) (hS2.block (b := bx) (by simp; exact .inr (.inr rfl)))).trans (by rfl)
       have H2 := Lib.hid (Sat.perm (List.perm_append_comm (l₁ := [_, _]) (l₂ := [_])) (Sat.perm (List.Perm.swap _ _ _) hS2))
       have HF2 := Lib.hid hF2
       clear hS2 hF2))
  go_wp2
  go_ret
  exact ⟨_, S2, ⟨rfl, rfl⟩, H2.out.tail, (HF.out.drew.trans HF1.out).trans HF2.out⟩

set_option maxHeartbeats 1000000 in
theorem act4_some (p p2 most : Nat) (q : List Int) (x : Int) (k0 : Nat) (hk : k0 < q.length) (hx : q.getD k0 0 = x) (hno : ∀ j, j < k0 → q.getD j 0 ≠ x) :
    Tri Try.prog 7 (actArgs p p2 4 x) (both p p2 most q) (Told p p2 most (q.eraseIdx k0)) := by
  intro w S hS
  show Calls _ _ _ _ (TEnd _ w S)
  have hA := hS.alloc (.cells #[.int .i64 4, .int .i64 x] 29)
  have hFA := (Fr.refl S w).alloc (.cells #[.int .i64 4, .int .i64 x] 29)
  go_enter Try.func7, Try.ntmps7
  have C1 := Remove_some p most q x k0 hk hx hno
  have C2 := RRemove_some p2 most q x k0 hk hx hno
  clear hx hno hk
  go_wp2
  obtain ⟨W, hW⟩ : ∃ W, W = w.alloc (.cells #[.int .i64 4, .int .i64 x] 29) := ⟨_, rfl⟩
  rw [← hW] at hA hFA ⊢
  generalize w.heap.size = bx at hA hFA ⊢
  have c1 : W.cell? ⟨bx, 1, none⟩ = some (.int .i64 x) := (cell_of_block (o := 1) (hA.block (List.mem_cons_self ..))).trans (by rfl)
  have HF := Lib.hid hFA
  have H0 := Lib.hid (Sat.perm (List.perm_append_comm (l₁ := [_]) (l₂ := [_, _])) hA)
  clear hW hA hFA hS
  go_region_held3 (fun w' => w'.cell? ⟨bx, 1, none⟩ = some (.int .i64 x)) (go_keep) (first
    | (go_at_call 19
       refine (C1.call (F := [refHP p2 most q, pt bx #[.int .i64 4, .int .i64 x] 29]) H0.out.drew).mono ?_
       rintro e w1 ⟨L, S1, ⟨rfl, rfl⟩, hS1, hF1⟩
       have k1 : w1.cell? ⟨bx, 1, none⟩ = some (.int .i64 x) := (cell_of_block (o := 1) (hS1.block (b := bx) (by simp; exact .inr (.inr rfl)))).trans (by rfl)
       have H1 := Lib.hid (Sat.perm (List.Perm.swap _ _ _) hS1)
       have HF1 := Lib.hid hF1
       clear hS1 hF1)
    | (go_at_call 20
       refine (C2.call (F := [ringHP p most (q.eraseIdx k0), pt bx #[.int .i64 4, .int .i64 x] 29]) H1.out).mono ?_
       rintro e w2 ⟨L, S2, ⟨rfl, rfl⟩, hS2, hF2⟩
       have k2 : w2.cell? ⟨bx, 1, none⟩ = some (.int .i64 x) := (cell_of_block (o := 1) (hS2.block (b := bx) (by simp; exact .inr (.inr rfl)))).trans (by rfl)
       have H2 := Lib.hid (Sat.perm (List.perm_append_comm (l₁ := [_, _]) (l₂ := [_])) (Sat.perm (List.Perm.swap _ _ _) hS2))
       have HF2 := Lib.hid hF2
       clear hS2 hF2))
  go_wp2
  go_ret
  exact ⟨_, S2, ⟨rfl, rfl⟩, H2.out.tail, (HF.out.drew.trans HF1.out).trans HF2.out⟩

set_option maxHeartbeats 1000000 in
theorem act2_none (p p2 most : Nat) (q : List Int) (x : Int) (hq : q = []) :
    Tri Try.prog 7 (actArgs p p2 2 x) (both p p2 most q) (Told p p2 most q) := by
  intro w S hS
  show Calls _ _ _ _ (TEnd _ w S)
  have hA := hS.alloc (.cells #[.int .i64 2, .int .i64 x] 29)
  have hFA := (Fr.refl S w).alloc (.cells #[.int .i64 2, .int .i64 x] 29)
  go_enter Try.func7, Try.ntmps7
  have C1 := Pop_empty p most q hq
  have C2 := RPop_empty p2 most q hq
  clear hq
  have H0 := Lib.hid (Sat.perm (List.perm_append_comm (l₁ := [_]) (l₂ := [_, _])) hA)
  have HF := Lib.hid hFA
  clear hA hFA hS
  go_wp2_with first
    | (go_at_call 12
       refine (C1.call (F := [refHP p2 most q, pt w.heap.size #[.int .i64 2, .int .i64 x] 29]) H0.out).mono ?_
       rintro e w1 ⟨L, S1, ⟨rfl, rfl⟩, hS1, hF1⟩
       have H1 := Lib.hid (Sat.perm (List.Perm.swap _ _ _) hS1)
       have HF1 := Lib.hid hF1
       clear hS1 hF1)
    | (go_at_call 16
       refine (C2.call (F := [ringHP p most q, pt w.heap.size #[.int .i64 2, .int .i64 x] 29]) H1.out).mono ?_
       rintro e w2 ⟨L, S2, ⟨rfl, rfl⟩, hS2, hF2⟩
       have H2 := Lib.hid (Sat.perm (List.perm_append_comm (l₁ := [_, _]) (l₂ := [_])) (Sat.perm (List.Perm.swap _ _ _) hS2))
       have HF2 := Lib.hid hF2
       clear hS2 hF2)
  go_ret
  exact ⟨_, S2, ⟨rfl, rfl⟩, H2.out.tail, (HF.out.trans HF1.out).trans HF2.out⟩

set_option maxHeartbeats 1000000 in
theorem act2_some (p p2 most : Nat) (q : List Int) (x : Int) (y : Int) :
    Tri Try.prog 7 (actArgs p p2 2 x) (both p p2 most (y :: q)) (Told p p2 most q) := by
  intro w S hS
  show Calls _ _ _ _ (TEnd _ w S)
  have hA := hS.alloc (.cells #[.int .i64 2, .int .i64 x] 29)
  have hFA := (Fr.refl S w).alloc (.cells #[.int .i64 2, .int .i64 x] 29)
  go_enter Try.func7, Try.ntmps7
  have C1 := Pop_some p most q y
  have C2 := RPop_some p2 most q y
  have H0 := Lib.hid (Sat.perm (List.perm_append_comm (l₁ := [_]) (l₂ := [_, _])) hA)
  have HF := Lib.hid hFA
  clear hA hFA hS
  go_wp2_with first
    | (go_at_call 12
       refine (C1.call (F := [refHP p2 most (y :: q), pt w.heap.size #[.int .i64 2, .int .i64 x] 29]) H0.out).mono ?_
       rintro e w1 ⟨L, S1, ⟨rfl, rfl⟩, hS1, hF1⟩
       have H1 := Lib.hid (Sat.perm (List.Perm.swap _ _ _) hS1)
       have HF1 := Lib.hid hF1
       clear hS1 hF1)
    | (go_at_call 16
       refine (C2.call (F := [ringHP p most q, pt w.heap.size #[.int .i64 2, .int .i64 x] 29]) H1.out).mono ?_
       rintro e w2 ⟨L, S2, ⟨rfl, rfl⟩, hS2, hF2⟩
       have H2 := Lib.hid (Sat.perm (List.perm_append_comm (l₁ := [_, _]) (l₂ := [_])) (Sat.perm (List.Perm.swap _ _ _) hS2))
       have HF2 := Lib.hid hF2
       clear hS2 hF2)
  go_ret
  exact ⟨_, S2, ⟨rfl, rfl⟩, H2.out.tail, (HF.out.trans HF1.out).trans HF2.out⟩

set_option maxHeartbeats 1000000 in
theorem act3_none (p p2 most : Nat) (q : List Int) (x : Int) (hq : q = []) :
    Tri Try.prog 7 (actArgs p p2 3 x) (both p p2 most q) (Told p p2 most q) := by
  intro w S hS
  show Calls _ _ _ _ (TEnd _ w S)
  have hA := hS.alloc (.cells #[.int .i64 3, .int .i64 x] 29)
  have hFA := (Fr.refl S w).alloc (.cells #[.int .i64 3, .int .i64 x] 29)
  go_enter Try.func7, Try.ntmps7
  have C1 := Back_empty p most q hq
  have C2 := RBack_empty p2 most q hq
  clear hq
  have H0 := Lib.hid (Sat.perm (List.perm_append_comm (l₁ := [_]) (l₂ := [_, _])) hA)
  have HF := Lib.hid hFA
  clear hA hFA hS
  go_wp2_with first
    | (go_at_call 17
       refine (C1.call (F := [refHP p2 most q, pt w.heap.size #[.int .i64 3, .int .i64 x] 29]) H0.out).mono ?_
       rintro e w1 ⟨L, S1, ⟨rfl, rfl⟩, hS1, hF1⟩
       have H1 := Lib.hid (Sat.perm (List.Perm.swap _ _ _) hS1)
       have HF1 := Lib.hid hF1
       clear hS1 hF1)
    | (go_at_call 18
       refine (C2.call (F := [ringHP p most q, pt w.heap.size #[.int .i64 3, .int .i64 x] 29]) H1.out).mono ?_
       rintro e w2 ⟨L, S2, ⟨rfl, rfl⟩, hS2, hF2⟩
       have H2 := Lib.hid (Sat.perm (List.perm_append_comm (l₁ := [_, _]) (l₂ := [_])) (Sat.perm (List.Perm.swap _ _ _) hS2))
       have HF2 := Lib.hid hF2
       clear hS2 hF2)
  go_ret
  exact ⟨_, S2, ⟨rfl, rfl⟩, H2.out.tail, (HF.out.trans HF1.out).trans HF2.out⟩

set_option maxHeartbeats 1000000 in
theorem act3_some (p p2 most : Nat) (q : List Int) (x : Int) (y : Int) :
    Tri Try.prog 7 (actArgs p p2 3 x) (both p p2 most (q ++ [y])) (Told p p2 most q) := by
  intro w S hS
  show Calls _ _ _ _ (TEnd _ w S)
  have hA := hS.alloc (.cells #[.int .i64 3, .int .i64 x] 29)
  have hFA := (Fr.refl S w).alloc (.cells #[.int .i64 3, .int .i64 x] 29)
  go_enter Try.func7, Try.ntmps7
  have C1 := Back_some p most q y
  have C2 := RBack_some p2 most q y
  have H0 := Lib.hid (Sat.perm (List.perm_append_comm (l₁ := [_]) (l₂ := [_, _])) hA)
  have HF := Lib.hid hFA
  clear hA hFA hS
  go_wp2_with first
    | (go_at_call 17
       refine (C1.call (F := [refHP p2 most (q ++ [y]), pt w.heap.size #[.int .i64 3, .int .i64 x] 29]) H0.out).mono ?_
       rintro e w1 ⟨L, S1, ⟨rfl, rfl⟩, hS1, hF1⟩
       have H1 := Lib.hid (Sat.perm (List.Perm.swap _ _ _) hS1)
       have HF1 := Lib.hid hF1
       clear hS1 hF1)
    | (go_at_call 18
       refine (C2.call (F := [ringHP p most q, pt w.heap.size #[.int .i64 3, .int .i64 x] 29]) H1.out).mono ?_
       rintro e w2 ⟨L, S2, ⟨rfl, rfl⟩, hS2, hF2⟩
       have H2 := Lib.hid (Sat.perm (List.perm_append_comm (l₁ := [_, _]) (l₂ := [_])) (Sat.perm (List.Perm.swap _ _ _) hS2))
       have HF2 := Lib.hid hF2
       clear hS2 hF2)
  go_ret
  exact ⟨_, S2, ⟨rfl, rfl⟩, H2.out.tail, (HF.out.trans HF1.out).trans HF2.out⟩

set_option maxHeartbeats 1000000 in
theorem act_else (p p2 most : Nat) (q : List Int) (k x : Int) (h0 : k ≠ 0) (h1 : k ≠ 1) (h2 : k ≠ 2) (h3 : k ≠ 3) (h4 : k ≠ 4) :
    Tri Try.prog 7 (actArgs p p2 k x) (both p p2 most q) (Told p p2 most q) := by
  intro w S hS
  show Calls _ _ _ _ (TEnd _ w S)
  have hA := hS.alloc (.cells #[.int .i64 k, .int .i64 x] 29)
  have hFA := (Fr.refl S w).alloc (.cells #[.int .i64 k, .int .i64 x] 29)
  have e0 : (k == 0) = false := by simp [h0]
  have e1 : (k == 1) = false := by simp [h1]
  have e2 : (k == 2) = false := by simp [h2]
  have e3 : (k == 3) = false := by simp [h3]
  have e4 : (k == 4) = false := by simp [h4]
  clear h0 h1 h2 h3 h4
  go_enter Try.func7, Try.ntmps7
  go_wp2
  go_ret
  exact ⟨_, _, ⟨rfl, rfl⟩, hA.tail, hFA⟩

/-- What an act makes of a queue. -/
def acted (most : Nat) (q : List Int) (k x : Int) : List Int :=
  if k = 0 then (if q.length < most then q ++ [x] else q)
  else if k = 1 then (if q.length < most then x :: q else q)
  else if k = 2 then q.tail
  else if k = 3 then q.dropLast
  else if k = 4 then q.erase x
  else q

theorem first_place {q : List Int} {x : Int} (h : x ∈ q) : ∃ k0, k0 < q.length ∧ q.getD k0 0 = x ∧ (∀ j, j < k0 → q.getD j 0 ≠ x) ∧ q.eraseIdx k0 = q.erase x := by
  induction q with
  | nil => cases h
  | cons y q ih =>
    by_cases e : y = x
    · subst e
      exact ⟨0, by simp, rfl, by omega, by simp⟩
    · have h' : x ∈ q := by simpa [Ne.symm e] using h
      obtain ⟨k0, i1, i2, i3, i4⟩ := ih h'
      refine ⟨k0 + 1, by simpa using i1, by simpa [List.getD] using i2, ?_, ?_⟩
      · intro j hj
        cases j with
        | zero => simpa using e
        | succ j => have := i3 j (by omega); simpa [List.getD] using this
      · rw [List.eraseIdx_cons_succ, i4, List.erase_cons_tail (by simpa using e)]

theorem act_any (p p2 most : Nat) (q : List Int) (k x : Int) (hl : q.length ≤ most) :
    Tri Try.prog 7 (actArgs p p2 k x) (both p p2 most q) (Told p p2 most (acted most q k x)) := by
  unfold acted
  split
  · subst k
    split
    · exact act0_room p p2 most q x (by assumption)
    · exact act0_full p p2 most q x (by omega)
  split
  · subst k
    split
    · exact act1_room p p2 most q x (by assumption)
    · exact act1_full p p2 most q x (by omega)
  split
  · subst k
    cases q with
    | nil => exact act2_none p p2 most [] x rfl
    | cons y q => exact act2_some p p2 most q x y
  split
  · subst k
    rcases List.eq_nil_or_concat q with rfl | ⟨q', y, rfl⟩
    · exact act3_none p p2 most [] x rfl
    · have := act3_some p p2 most q' x y
      simpa using this
  split
  · subst k
    by_cases hx : x ∈ q
    · obtain ⟨k0, i1, i2, i3, i4⟩ := first_place hx
      have := act4_some p p2 most q x k0 i1 i2 i3
      rw [i4] at this
      exact this
    · rw [List.erase_of_not_mem hx]
      exact act4_none p p2 most q x hx
  · exact act_else p p2 most q k x (by assumption) (by assumption) (by assumption) (by assumption) (by assumption)
end Go.Proofs.Yteholmfgefhgeaa
