/- The package ring: All, gone over. -/
import Derived.Test.YteholmfgefhgeaaRingE
import Derived.Test.YteholmfgefhgeaaSepR
import Derived.RangeFuncNested
import Derived.RangeFuncBound
import Derived.RangeFuncCalls
import Derived.RangeFuncLeaves
import Derived.Shelf.Abstract
import Derived.Shelf.RegionOpen
import Derived.OwnWalkIn
import Derived.TacticsInMore
import Derived.LoopNIn
import Derived.LoopIn
import Derived.Stop.RegionWithIn
namespace Go.Proofs.Yteholmfgefhgeaa
open Go.RowKit Go.Sep Go.Shelf
attribute [local go_sem] Oper.semAt_some

theorem All_any (p : Nat) :
    Tri Try.prog 22 #[.pointer (some ⟨p, 0, none⟩)] [] (fun e L => ∃ B, e = .returned (.func (.func 30) #[] #[.pointer (some ⟨B, 0, none⟩)]) ∧ L = [pt B #[.pointer (some ⟨p, 0, none⟩)] 24]) := by
  intro w S hS
  go_enter Try.func22, Try.ntmps22
  go_wp2
  go_ret
  exact ⟨_, _, ⟨w.heap.size, rfl, rfl⟩, hS.alloc _, (Fr.refl S w).alloc _⟩

def AllRel (B p most : Nat) (q : List Int) (J : List Int → List HP) (W : World) (S : Fp) (i : Value) (wr : World) : Prop :=
  ∃ k : Nat, k ≤ q.length ∧ i = .int .i64 k ∧ ∃ S', Sat ([pt B #[.pointer (some ⟨p, 0, none⟩)] 24, ringHP p most q] ++ J (q.take k)) wr S' ∧ Fr S S' W wr

set_option maxHeartbeats 1000000 in
theorem All1_it (B p most : Nat) (q : List Int) :
    ITri Try.prog 30 #[.pointer (some ⟨B, 0, none⟩)] (fun x : Int => #[.int .i64 x]) [pt B #[.pointer (some ⟨p, 0, none⟩)] 24, ringHP p most q] q := by
  intro l J Jx fn tm assign body hY W S hS m
  refine callsIn_of_wp Try.func30 rfl trivial ?_ rfl
  simp only [Try.ntmps30, List.size_toArray, List.length_cons, List.length_nil, Nat.reduceAdd, Nat.reduceSub, Array.replicate_succ, Array.replicate_zero, List.push_toArray, List.append_toArray, List.nil_append, List.cons_append]
  gi_wp2
  gi_loopw [3] (fun i wr => AllRel B p most q J W S i wr) (fun i _ => q.length - (intOf i).toNat)
  case atStart => exact ⟨0, by omega, rfl, S, by simpa using hS, Fr.refl S W⟩
  case round =>
    obtain ⟨k, hk, rfl, S', hS', hF'⟩ := hrel
    have HS := Lib.hid hS'
    have HF := Lib.hid hF'
    have hB := hS'.block (b := B) (List.mem_cons_self ..)
    have cB : wr.cell? ⟨B, 0, none⟩ = some (.pointer (some ⟨p, 0, none⟩)) := (cell_of_block (o := 0) hB).trans (by rfl)
    obtain ⟨⟨lb, f, buf⟩, ⟨h5, h1, h2, h3, h4, hqe⟩, hS1⟩ := hS'.swap.unfold
    dsimp only at h5 h3 hqe hS1
    obtain ⟨hR, hne, fp, fl, sp, sl⟩ := RR.of hS1 h5 h1 h2 h3 h4
    obtain ⟨n, hn⟩ : ∃ n, q.length = n := ⟨_, rfl⟩
    rw [hn] at hR hqe h4 hk
    have HL := len_any hR
    have HN := Lib.hid hn
    clear hS hS' hF' hB hS1 hne fp fl sp sl hn
    by_cases hlt : k < n
    · obtain ⟨r, hr⟩ : ∃ r, (f + k) % most = r := ⟨_, rfl⟩
      have HA := fun k' => at_any (hR.drewN k') k r (by omega) hr
      obtain ⟨c0, c1, c2, cb, -, -, -, -, -⟩ := hR
      have hlr : r < most := by rw [← hr]; exact Nat.mod_lt _ h1
      have hb := cb r hlr
      have HX : Hid (q.drop k = buf.getD r 0 :: q.drop (k + 1)) := by
        show q.drop k = buf.getD r 0 :: q.drop (k + 1)
        rw [List.drop_eq_getElem_cons (by rw [HN.out]; exact hlt)]
        congr 1
        have h := told_getD (most := most) (f := f) (buf := buf) hlt
        unfold nth at h
        rw [hr] at h
        rw [← h, ← hqe]
        have := HN.out
        simp [List.getD, this, hlt]
      clear cb hr hqe
      generalize buf.getD r 0 = x at HX hb
      have hlt' : (r : Int) < (most : Int) := by omega
      have hge' : (0 : Int) ≤ (r : Int) := by omega
      have hql : q = q.take k ++ x :: q.drop (k + 1) := by rw [← HX.out, List.take_append_drop]
      have hy : ∀ k', (Instr.yield l #[.int .i64 x]).run Try.prog (wr.drewN k') = .ok (.round l fn (tm x) assign body) (wr.drewN k') := fun k' => (hY _ x _ hql _ _ (HS.out.drewN k')).1
      have HR := fun k' => (hY _ x _ hql _ _ (HS.out.drewN k')).2
      have HQ := Lib.hid hql
      clear hql hY
      gi_wp2_with (refine ⟨trivial, (fun h => by simp [Fence.wide] at h), ?_⟩; gi_at_call 27; refine (callsIn_wide.2 HL).mono ?_; rintro e w' ⟨rfl, rfl⟩)
      gi_region_with (first
        | (refine ⟨trivial, (fun h => by simp [Fence.wide] at h), ?_⟩; gi_at_call 24; refine (callsIn_wide.2 (HA _)).mono ?_; rintro e w' ⟨rfl, m', rfl⟩)
        | (refine ⟨(fun h => by simp [Fence.wide] at h), ?_⟩; refine (HR _ _).mono ?_; rintro e W' ⟨b, rfl, hb⟩))
      all_goals
        cases b with
        | true =>
          gi_wp2
          go_roundw
          case rel =>
            rcases hb.out with ⟨_, S2, hS2, hF2⟩ | ⟨h, _⟩
            · refine ⟨k + 1, by rw [HN.out]; omega, by go_num, S2, ?_, (HF.out.drewN _).trans hF2⟩
              have e1 : q.take (k + 1) = q.take k ++ [x] := by
                have h := HX.out
                rw [List.take_add_one, ← List.head?_drop, h]
                rfl
              rw [e1]
              exact hS2
            · cases h
          case measure =>
            have := HN.out
            simp [intOf]; omega
        | false =>
          gi_wp2
          try simp only [Exit.inBlock, Exit.then]
          refine bodyPost_ret (results_none rfl _ _ _) rfl ?_
          rcases hb.out with ⟨h, _⟩ | ⟨_, L, S2, hL, hS2, hF2⟩
          · cases h
          · exact And.intro ⟨_, rfl⟩ ⟨L, S2, .inr hL, hS2, (HF.out.drewN _).trans hF2⟩
    · have hkn : k = n := by omega
      subst hkn
      clear hR
      gi_wp2_with (refine ⟨trivial, (fun h => by simp [Fence.wide] at h), ?_⟩; gi_at_call 27; refine (callsIn_wide.2 HL).mono ?_; rintro e w' ⟨rfl, rfl⟩)
      go_end0
      have h := HS.out
      rw [List.take_of_length_le (by rw [HN.out]; exact Nat.le_refl _)] at h
      exact And.intro ⟨_, rfl⟩ ⟨_, S', .inl rfl, h, HF.out⟩
end Go.Proofs.Yteholmfgefhgeaa
