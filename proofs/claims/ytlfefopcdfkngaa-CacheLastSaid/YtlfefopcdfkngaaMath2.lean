/-
  The plain law of the last verdicts: of traces 1, 2, .. that come once each (or twice) the last ones are there.
-/
import Derived.Test.YtlfefopcdfkngaaMath
namespace Go.Proofs.Ytlfefopcdfkngaa
set_option linter.unusedVariables false
set_option linter.unusedSimpArgs false

/-- The traces a + 1 to a + c. -/
def runL (a c : Nat) (v : Int) : List One := (List.range c).map fun j => (((a + 1 + j : Nat) : Int), v)
theorem runL_length (a c : Nat) (v : Int) : (runL a c v).length = c := by simp [runL]
theorem runL_keys (a c : Nat) (v : Int) (t : Int) : t ∈ keysL (runL a c v) ↔ (a : Int) < t ∧ t ≤ ((a + c : Nat) : Int) := by
  simp only [keysL, runL, List.map_map, List.mem_map, List.mem_range, Function.comp]
  constructor
  · rintro ⟨j, hj, rfl⟩; omega
  · rintro ⟨h1, h2⟩
    exact ⟨(t - a - 1).toNat, by omega, by omega⟩
theorem getL_const (l : List One) (v t : Int) (h : ∀ x ∈ l, x.2 = v) : getL l t = if t ∈ keysL l then v else 0 := by
  induction l with
  | nil => simp [getL, keysL]
  | cons x l ih =>
    have ih := ih (fun y hy => h y (by simp [hy]))
    unfold getL
    by_cases e : x.1 = t
    · rw [if_pos e, if_pos (by simp [keysL, e]), h x (by simp)]
    · rw [if_neg e, ih]
      have : t ∈ keysL (x :: l) ↔ t ∈ keysL l := by
        simp only [keysL, List.map_cons, List.mem_cons]
        exact ⟨fun q => q.resolve_left (fun z => e z.symm), .inr⟩
      by_cases q : t ∈ keysL l
      · rw [if_pos q, if_pos (this.2 q)]
      · rw [if_neg q, if_neg (fun z => q (this.1 z))]
theorem getL_run (a c : Nat) (v t : Int) : getL (runL a c v) t = if (a : Int) < t ∧ t ≤ ((a + c : Nat) : Int) then v else 0 := by
  rw [getL_const _ v t (fun x hx => by simp only [runL, List.mem_map] at hx; obtain ⟨j, _, rfl⟩ := hx; rfl)]
  by_cases q : t ∈ keysL (runL a c v)
  · rw [if_pos q, if_pos ((runL_keys a c v t).1 q)]
  · rw [if_neg q, if_neg (fun z => q ((runL_keys a c v t).2 z))]
theorem runL_snoc (a c : Nat) (v : Int) : runL a c v ++ [(((a + c + 1 : Nat) : Int), v)] = runL a (c + 1) v := by
  simp only [runL, List.range_succ, List.map_append, List.map_singleton]
  congr 3
  omega
theorem runL_tail (a c : Nat) (v : Int) : (runL a (c + 1) v).tail = runL (a + 1) c v := by
  simp only [runL, List.range_succ_eq_map, List.map_cons, List.tail_cons, List.map_map]
  apply List.map_congr_left
  intro j _
  simp only [Function.comp]
  congr 1
  omega
/-- Behind n puts the last ones are there, at most so many. -/
def lastL (most n : Nat) (v : Int) : List One := runL (n - min n most) (min n most) v
theorem putL_new (most n : Nat) (v : Int) (hv : 1 ≤ v ∧ v ≤ 3) (hm : 1 ≤ most) : putL (lastL most n v) most ((n + 1 : Nat) : Int) v = (lastL most (n + 1) v, true) := by
  have h0 : getL (lastL most n v) ((n + 1 : Nat) : Int) = 0 := by
    unfold lastL
    rw [getL_run, if_neg]
    omega
  unfold putL
  rw [h0, if_neg (by omega), if_neg (by omega)]
  congr 1
  unfold lastL
  rw [runL_length]
  by_cases h : most ≤ n
  · rw [Nat.min_eq_right h, if_pos (Nat.le_refl _), Nat.min_eq_right (by omega)]
    obtain ⟨c, rfl⟩ : ∃ c, most = c + 1 := ⟨most - 1, by omega⟩
    rw [runL_tail, show ((n + 1 : Nat) : Int) = ((n - (c + 1) + 1 + c + 1 : Nat) : Int) by omega, runL_snoc]
    congr 1
    omega
  · rw [Nat.min_eq_left (by omega), if_neg (by omega), Nat.min_eq_left (by omega), Nat.sub_self, Nat.sub_self]
    have := runL_snoc 0 n v
    rwa [Nat.zero_add] at this
theorem putL_again (most n : Nat) (v : Int) (hv : 1 ≤ v ∧ v ≤ 3) (hm : 1 ≤ most) : putL (lastL most (n + 1) v) most ((n + 1 : Nat) : Int) v = (lastL most (n + 1) v, true) := by
  have h0 : getL (lastL most (n + 1) v) ((n + 1 : Nat) : Int) = v := by
    unfold lastL
    rw [getL_run, if_pos]
    omega
  unfold putL
  rw [h0, if_neg (by omega), if_pos rfl]
theorem getL_last (most n : Nat) (v : Int) (i : Nat) (h1 : 1 ≤ i) (h2 : i ≤ n) : getL (lastL most n v) (i : Int) = if (n : Int) - (most : Int) < (i : Int) then v else 0 := by
  unfold lastL
  rw [getL_run]
  by_cases h : (n : Int) - (most : Int) < (i : Int)
  · rw [if_pos h, if_pos (by omega)]
  · rw [if_neg h, if_neg (by omega)]
theorem lastL_length (most n : Nat) (v : Int) : (lastL most n v).length = min n most := runL_length _ _ _
theorem lastL_key (most n : Nat) (v : Int) (h : 1 ≤ min n most) : (keysL (lastL most n v))[min n most - 1]? = some (n : Int) := by
  unfold lastL keysL runL
  rw [List.map_map, List.getElem?_map, List.getElem?_range (by omega)]
  simp only [Option.map_some, Function.comp]
  congr 1
  omega

end Go.Proofs.Ytlfefopcdfkngaa
