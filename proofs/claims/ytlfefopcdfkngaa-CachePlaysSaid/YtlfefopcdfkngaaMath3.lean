/-
  The plain law of a put: what a trace's verdict is behind it.
-/
import Derived.Test.YtlfefopcdfkngaaMath
namespace Go.Proofs.Ytlfefopcdfkngaa
set_option linter.unusedVariables false
set_option linter.unusedSimpArgs false

theorem getL_of_not_mem : ∀ (l : List One) (t : Int), t ∉ keysL l → getL l t = 0
  | [], _, _ => rfl
  | x :: l, t, h => by
    simp only [keysL, List.map_cons, List.mem_cons, not_or] at h
    rw [getL, if_neg (fun e => h.1 e.symm)]
    exact getL_of_not_mem l t h.2
theorem put_get {most : Nat} {l : List One} (g : Good most l) (t v : Int) :
    (getL l t ≠ 0 → getL (putL l most t v).1 t = getL l t) ∧ ((putL l most t v).2 = true → getL (putL l most t v).1 t = v) ∧ ((putL l most t v).2 = false → getL (putL l most t v).1 t = getL l t) := by
  unfold putL
  by_cases h1 : t = 0 ∨ v < 1 ∨ 3 < v ∨ (getL l t ≠ 0 ∧ getL l t ≠ v)
  · rw [if_pos h1]; exact ⟨fun _ => rfl, fun h => absurd h (by simp), fun _ => rfl⟩
  rw [if_neg h1]
  by_cases h2 : getL l t = v
  · rw [if_pos h2]; exact ⟨fun _ => rfl, fun _ => h2, fun h => absurd h (by simp)⟩
  rw [if_neg h2]
  have h0 : getL l t = 0 := by
    by_cases q : getL l t = 0
    · exact q
    · exact absurd (.inr (.inr (.inr ⟨q, h2⟩))) h1
  have hn : t ∉ keysL l := fun q => (getL_mem l t (fun x hx => (g.one x hx).2.2.1)).2 q h0
  have key : ∀ l' : List One, l' <:+ l → getL (l' ++ [(t, v)]) t = v := fun l' hs => by
    rw [getL_append l' t t v (fun q => hn ((hs.sublist.map (·.1)).subset q)), if_pos rfl]
  refine ⟨fun q => absurd h0 q, fun _ => ?_, fun h => absurd h (by simp)⟩
  show getL ((if most ≤ l.length then l.tail else l) ++ [(t, v)]) t = v
  by_cases h3 : most ≤ l.length
  · rw [if_pos h3]; exact key _ (List.tail_suffix l)
  · rw [if_neg h3]; exact key _ (List.suffix_refl l)

end Go.Proofs.Ytlfefopcdfkngaa
