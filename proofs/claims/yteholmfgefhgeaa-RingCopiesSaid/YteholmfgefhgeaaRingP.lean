/- Plain facts on a row of numbers that is gone round. -/
import Derived.Test.YteholmfgefhgeaaRingB
namespace Go.Proofs.Yteholmfgefhgeaa

theorem pos_eq {f i most : Nat} (hf : f < most) (hi : i ≤ most) : (f + i) % most = if f + i < most then f + i else f + i - most := by
  split
  · exact Nat.mod_eq_of_lt ‹_›
  · rw [Nat.mod_eq_sub_mod (by omega)]
    exact Nat.mod_eq_of_lt (by omega)

theorem getD_set_self (l : List Int) (k : Nat) (x : Int) (h : k < l.length) : (l.set k x).getD k 0 = x := by simp [h]
theorem getD_set_other (l : List Int) (k j : Nat) (x : Int) (h : k ≠ j) : (l.set k x).getD j 0 = l.getD j 0 := by simp [List.getD, List.getElem?_set_ne h]

/-- The numbers, in order. -/
def told (most f : Nat) (buf : List Int) (n : Nat) : List Int := (List.range n).map (nth most f buf)

@[simp] theorem told_length (most f : Nat) (buf : List Int) (n : Nat) : (told most f buf n).length = n := by simp [told]

theorem told_push {most f n : Nat} {buf : List Int} (x : Int) (hb : buf.length = most) (hf : f < most) (hn : n < most) :
    told most f (buf.set ((f + n) % most) x) (n + 1) = told most f buf n ++ [x] := by
  unfold told
  rw [List.range_succ, List.map_append]
  congr 1
  · apply List.map_congr_left
    intro i hi
    have hi' := List.mem_range.1 hi
    unfold nth
    apply getD_set_other
    rw [pos_eq hf (by omega), pos_eq hf (by omega)]
    split <;> split <;> omega
  · simp only [List.map_cons, List.map_nil, nth]
    rw [getD_set_self _ _ _ (by rw [hb]; exact Nat.mod_lt _ (by omega))]

theorem told_front {most f n : Nat} {buf : List Int} (x : Int) (hb : buf.length = most) (hf : f < most) (hn : n < most) :
    told most ((f + (most - 1)) % most) (buf.set ((f + (most - 1)) % most) x) (n + 1) = x :: told most f buf n := by
  obtain ⟨g, hg⟩ : ∃ g, (f + (most - 1)) % most = g := ⟨_, rfl⟩
  have hgl : g < most := by rw [← hg]; exact Nat.mod_lt _ (by omega)
  rw [hg]
  rw [pos_eq hf (by omega)] at hg
  unfold told
  rw [List.range_succ_eq_map, List.map_cons, List.map_map]
  congr 1
  · unfold nth
    rw [Nat.add_zero, Nat.mod_eq_of_lt hgl, getD_set_self _ _ _ (by omega)]
  · apply List.map_congr_left
    intro i hi
    have hi' := List.mem_range.1 hi
    simp only [Function.comp, nth]
    have e : (g + (i + 1)) % most = (f + i) % most := by
      rw [pos_eq hgl (by omega), pos_eq hf (by omega)]
      revert hg
      split <;> split <;> split <;> omega
    show (buf.set g x).getD ((g + (i + 1)) % most) 0 = _
    rw [e]
    apply getD_set_other
    rw [← e, pos_eq hgl (by omega)]
    split <;> omega

theorem told_pop {most f n : Nat} {buf : List Int} (hf : f < most) (hn : n + 1 ≤ most) : told most ((f + 1) % most) buf n = (told most f buf (n + 1)).tail := by
  unfold told
  rw [List.range_succ_eq_map, List.map_cons, List.map_map, List.tail_cons]
  apply List.map_congr_left
  intro i hi
  have hi' := List.mem_range.1 hi
  simp only [Function.comp, nth]
  show buf.getD (((f + 1) % most + i) % most) 0 = buf.getD ((f + (i + 1)) % most) 0
  rw [Nat.mod_add_mod, Nat.add_assoc, Nat.add_comm 1 i]

theorem told_back (most f n : Nat) (buf : List Int) : told most f buf n = (told most f buf (n + 1)).dropLast := by
  unfold told
  rw [List.range_succ, List.map_append, List.map_cons, List.map_nil, List.dropLast_concat]

theorem told_getD {most f n : Nat} {buf : List Int} {i : Nat} (hi : i < n) : (told most f buf n).getD i 0 = nth most f buf i := by
  simp [told, List.getD, hi]

/-- The places from i on but for the last one have taken what stood behind them. -/
theorem told_shift {most f n k : Nat} {buf : List Int} (hk : k < n) : told most f buf n = (told most f buf n).take k ++ nth most f buf k :: (told most f buf n).drop (k + 1) := by
  conv => lhs; rw [← List.take_append_drop k (told most f buf n)]
  congr 1
  rw [List.drop_eq_getElem_cons (by simpa using hk)]
  simp [told]

end Go.Proofs.Yteholmfgefhgeaa
