/-
  What a slice of traces and verdicts that came in is: its elements at their cells.
-/
import Derived.Test.YtlfefopcdfkngaaWalk2
import Derived.ProofKit
import Derived.Deep.SlicePairs
namespace Go.Proofs.Ytlfefopcdfkngaa
open Go.RowKit Go.ChangeShapes Go.WideShapes Go.ChangeAt
set_option linter.unusedVariables false
set_option linter.unusedSimpArgs false

/-- A slice's elements at their cells: each a trace and a verdict. -/
def RdO (w : World) (a : Option Addr) (L : List One) : Prop :=
  L = [] ∨ ∃ b off, a = some ⟨b, off, none⟩ ∧ ∀ i, i < L.length → w.cell? ⟨b, off + i * 2, none⟩ = some (.int .u64 (L.getD i (0, 0)).1) ∧ w.cell? ⟨b, off + i * 2 + 1, none⟩ = some (.int .i64 (L.getD i (0, 0)).2)
/-- .. each fitting its kind. -/
def Fit1 (x : One) : Prop := 0 ≤ x.1 ∧ x.1 < 18446744073709551616 ∧ -9223372036854775808 ≤ x.2 ∧ x.2 ≤ 9223372036854775807
def FitO (L : List One) : Prop := ∀ x ∈ L, Fit1 x

theorem open_ones {H : Type} {enc : TypeId × Value → H} {w : World} {spare : Nat → Bool} {held : Bool} {a : Option Addr} {len cap : Nat} {d : DataW H} {p : List MemPlace}
    (h : DataW.Trod enc Try.prog w 0 spare held 22 (.slice a len cap) d p) : ∃ L : List One, L.length = len ∧ RdO w a L ∧ FitO L ∧ len ≤ maxLen ∧ (a = none → cap = 0) := by
  obtain ⟨fuel, hf⟩ := h
  rcases Deep.open_slice_pairs Try.underlying22 Try.underlying33 (by kernel_rfl) rfl rfl (by kernel_rfl) (by kernel_rfl) hf with ⟨hcs, _⟩ | ⟨x, l, c, m, n, V0, V1, D0, D1, P0, P1, hcs, _, hl, hm, hmm, _, hall⟩
  · simp [Value.cells] at hcs
    obtain ⟨rfl, rfl, rfl⟩ := hcs
    exact ⟨[], rfl, .inl rfl, by simp [FitO], Nat.zero_le _, fun _ => rfl⟩
  · simp [Value.cells] at hcs
    obtain ⟨rfl, rfl, rfl⟩ := hcs
    have hlm : len ≤ m := by rw [hmm]; split <;> omega
    have each : ∀ i, i < len → ∃ q : One, w.cell? (x.add (i * 2)) = some (.int .u64 q.1) ∧ w.cell? (x.add (i * 2 + 1)) = some (.int .i64 q.2) ∧ Fit1 q := by
      intro i hi
      obtain ⟨c0, c1, t0, t1⟩ := hall i (by omega)
      obtain ⟨u, e0, _, w0⟩ := DataW.trod_int Try.underlying30 t0
      obtain ⟨v, e1, _, w1⟩ := DataW.trod_int Try.underlying31 t1
      simp at e0 e1
      rw [e0] at c0
      rw [e1] at c1
      simp [Lit.wf, IntKind.min, IntKind.max, IntKind.signed, IntKind.bits] at w0 w1
      exact ⟨(u, v), c0, c1, by omega, by omega, by omega, by omega⟩
    obtain ⟨f, hf⟩ : ∃ f : Nat → One, ∀ i, i < len → w.cell? (x.add (i * 2)) = some (.int .u64 (f i).1) ∧ w.cell? (x.add (i * 2 + 1)) = some (.int .i64 (f i).2) ∧ Fit1 (f i) :=
      ⟨fun i => if hi : i < len then Classical.choose (each i hi) else (0, 0), fun i hi => by
        have := Classical.choose_spec (each i hi)
        simp only [dif_pos hi]
        exact this⟩
    refine ⟨(List.range len).map f, by simp, ?_, ?_, by omega, fun h => by cases h⟩
    · by_cases h0 : len = 0
      · subst h0; exact .inl rfl
      · obtain ⟨b, off, spot⟩ := x
        have hq0 := (hf 0 (by omega)).1
        have hspot : spot = none := by simpa [Addr.add] using World.cell?_spot hq0
        subst hspot
        refine .inr ⟨b, off, rfl, fun i hi => ?_⟩
        simp only [List.length_map, List.length_range] at hi
        have hc := hf i hi
        have e : ((List.range len).map f).getD i (0, 0) = f i := by
          rw [List.getD_eq_getElem?_getD]; simp [hi]
        rw [e]
        rw [add_plain, add_plain, ← Nat.add_assoc] at hc
        exact ⟨hc.1, hc.2.1⟩
    · intro y hy
      simp only [List.mem_map, List.mem_range] at hy
      obtain ⟨i, hi, rfl⟩ := hy
      exact (hf i hi).2.2

end Go.Proofs.Ytlfefopcdfkngaa
