/- The document's examples of the queue. -/
import Derived.Test.YteholmfgefhgeaaActA
namespace Go.Proofs.Yteholmfgefhgeaa
open Go.RowKit Go.Sep

set_option maxHeartbeats 1000000 in
theorem lives_any : Tri Try.prog 4 #[] [] (fun e L => e = .returned (.bool true) ∧ L = []) := by
  intro w S hS
  show Calls _ _ _ _ (TEnd _ w S)
  have C0 := (New_ok 2 (by omega) (by omega)).call (F := []) (w := w) (S := S) hS
  go_enter Try.func4, Try.ntmps4
  go_wp2_with fail
  refine C0.mono ?_
  rintro e w1 ⟨L, S1, ⟨p, rfl, rfl⟩, hS1, hF1⟩
  have C1 := (Push_room p 2 [] 1 (by decide)).call (F := []) hS1
  clear C0
  go_wp2_with fail
  refine C1.mono ?_
  rintro e w2 ⟨L, S2, ⟨rfl, rfl⟩, hS2, hF2⟩
  have C2 := (Push_room p 2 ([] ++ [1]) 2 (by decide)).call (F := []) hS2
  clear C1
  go_wp2_with fail
  refine C2.mono ?_
  rintro e w3 ⟨L, S3, ⟨rfl, rfl⟩, hS3, hF3⟩
  have C3 := (Push_full p 2 ([] ++ [1] ++ [2]) 3 (by decide)).call (F := []) hS3
  clear C2
  go_wp2_with fail
  refine C3.mono ?_
  rintro e w4 ⟨L, S4, ⟨rfl, rfl⟩, hS4, hF4⟩
  have C4 := (Pop_some p 2 [2] 1).call (F := []) hS4
  clear C3
  go_wp2_with fail
  refine C4.mono ?_
  rintro e w5 ⟨L, S5, ⟨rfl, rfl⟩, hS5, hF5⟩
  clear C4
  go_wp2
  go_ret
  exact ⟨_, S5, ⟨rfl, rfl⟩, hS5.tail, (((hF1.trans hF2).trans hF3).trans hF4).trans hF5⟩
end Go.Proofs.Yteholmfgefhgeaa
