/-
  The walk of the document's put.
-/
import Derived.Test.YtlfefopcdfkngaaWalk3
namespace Go.Proofs.Ytlfefopcdfkngaa
open Go.RowKit
set_option linter.unusedVariables false
set_option linter.unusedSimpArgs false

/-- What the document's put leaves: the list anew, at its cells. -/
def RefPost (w : World) (most : Nat) (a : Option Addr) (l : List One) (t v : Int) (e : Ending) (w' : World) : Prop :=
  ∃ a' cap', e = .returned (.tuple #[.slice a' (putL l most t v).1.length cap', .bool (putL l most t v).2]) ∧ RdO w' a' (putL l most t v).1 ∧ (putL l most t v).1.length ≤ cap' ∧ (a' = none → cap' = 0) ∧ Below w.heap.size w w' ∧ ∀ ad, a' = some ad → a = some ad ∨ w.heap.size ≤ ad.block

set_option maxHeartbeats 1000000 in
theorem refPut_same (a : Option Addr) (l : List One) (cap most : Nat) (t v : Int) (w : World) (hr : RdO w a l) (hl : l.length ≤ 1000) (hcap : l.length ≤ cap) (hnil : a = none → cap = 0)
    (h : t = 0 ∨ v < 1 ∨ 3 < v ∨ (getL l t ≠ 0 ∧ getL l t ≠ v)) :
    Calls Try.prog 8 #[.slice a l.length cap, .int .i64 most, .int .u64 t, .int .i64 v] w (RefPost w most a l t v) := by
  have hp : putL l most t v = (l, false) := by unfold putL; rw [if_pos h]
  unfold RefPost
  rw [hp]
  have hG := refGet_any a l cap t w hr hl
  generalize getL l t = old at hG h
  have fin : ∃ a' cap', Ending.returned (.tuple #[.slice a l.length cap, .bool false]) = .returned (.tuple #[.slice a' (l, false).1.length cap', .bool (l, false).2]) ∧ RdO w a' (l, false).1 ∧ (l, false).1.length ≤ cap' ∧ (a' = none → cap' = 0) ∧ Below w.heap.size w w ∧ ∀ ad, a' = some ad → a = some ad ∨ w.heap.size ≤ ad.block :=
    ⟨a, cap, rfl, hr, hcap, hnil, Below.refl _ _, fun ad h => .inl h⟩
  have HF := hidden fin
  clear fin hr hnil
  by_cases h1 : t = 0
  · have d1 : (t == (0 : Int)) = true := by simpa using h1
    clear h h1
    go_enter Try.func8, Try.ntmps8
    go_wp2_with fail
    refine hG.mono ?_
    rintro e w' ⟨rfl, rfl⟩
    go_wp2_with fail
    go_ret2
    exact HF.out
  have d1 : (t == (0 : Int)) = false := by simpa using h1
  by_cases h2 : v < 1
  · have d2 : decide (v < (1 : Int)) = true := by simpa using h2
    clear h h1
    go_enter Try.func8, Try.ntmps8
    go_wp2_with fail
    refine hG.mono ?_
    rintro e w' ⟨rfl, rfl⟩
    go_wp2_with fail
    go_ret2
    exact HF.out
  have d2 : decide (v < (1 : Int)) = false := by simpa using h2
  by_cases h3 : 3 < v
  · have d3 : decide ((3 : Int) < v) = true := by simpa using h3
    clear h h1
    go_enter Try.func8, Try.ntmps8
    go_wp2_with fail
    refine hG.mono ?_
    rintro e w' ⟨rfl, rfl⟩
    go_wp2_with fail
    go_ret2
    exact HF.out
  have d3 : decide ((3 : Int) < v) = false := by simpa using h3
  obtain ⟨h4, h5⟩ := ((h.resolve_left h1).resolve_left h2).resolve_left h3
  have d4 : (old != (0 : Int)) = true := by simpa using h4
  have d5 : (old != v) = true := by simpa using h5
  clear h h1 h4 h5
  go_enter Try.func8, Try.ntmps8
  go_wp2_with fail
  refine hG.mono ?_
  rintro e w' ⟨rfl, rfl⟩
  go_wp2_with fail
  go_ret2
  exact HF.out

set_option maxHeartbeats 1000000 in
theorem refPut_old (a : Option Addr) (l : List One) (cap most : Nat) (t v : Int) (w : World) (hr : RdO w a l) (hl : l.length ≤ 1000) (hcap : l.length ≤ cap) (hnil : a = none → cap = 0)
    (h : ¬ (t = 0 ∨ v < 1 ∨ 3 < v ∨ (getL l t ≠ 0 ∧ getL l t ≠ v))) (hv : getL l t = v) :
    Calls Try.prog 8 #[.slice a l.length cap, .int .i64 most, .int .u64 t, .int .i64 v] w (RefPost w most a l t v) := by
  have hp : putL l most t v = (l, true) := by unfold putL; rw [if_neg h, if_pos hv]
  unfold RefPost
  rw [hp]
  have hG := refGet_any a l cap t w hr hl
  rw [hv] at hG h
  have fin : ∃ a' cap', Ending.returned (.tuple #[.slice a l.length cap, .bool true]) = .returned (.tuple #[.slice a' (l, true).1.length cap', .bool (l, true).2]) ∧ RdO w a' (l, true).1 ∧ (l, true).1.length ≤ cap' ∧ (a' = none → cap' = 0) ∧ Below w.heap.size w w ∧ ∀ ad, a' = some ad → a = some ad ∨ w.heap.size ≤ ad.block :=
    ⟨a, cap, rfl, hr, hcap, hnil, Below.refl _ _, fun ad h => .inl h⟩
  have HF := hidden fin
  clear fin hr hnil
  have d1 : (t == (0 : Int)) = false := by simp; omega
  have d2 : decide (v < (1 : Int)) = false := by simp; omega
  have d3 : decide ((3 : Int) < v) = false := by simp; omega
  have d4 : (v != (0 : Int)) = true := by simp; omega
  have d5 : (v != v) = false := by simp
  have d6 : (v == v) = true := by simp
  clear h hv
  go_enter Try.func8, Try.ntmps8
  go_wp2_with fail
  refine hG.mono ?_
  rintro e w' ⟨rfl, rfl⟩
  go_wp2_with fail
  go_ret2
  exact HF.out

theorem news2 (W : World) (t v : Int) : ∀ (j : Nat) (u : Value), [Value.int .u64 t, .int .i64 v][j]? = some u → (W.alloc (.cells #[.int .u64 t, .int .i64 v] 33)).cell? (Addr.add ⟨W.heap.size, 0, none⟩ j) = some u := by
  intro j u hj
  rw [WideShapes.add_plain, Nat.zero_add, cell_of_row _ W.heap.size j _ 33 (0, 0) (heap_alloc_new W _)]
  simpa using hj
theorem one2 (t v : Int) : ∀ u ∈ [Value.int .u64 t, .int .i64 v], u.oneCell' = true := by
  intro u hu
  simp only [List.mem_cons, List.not_mem_nil, or_false] at hu
  rcases hu with rfl | rfl <;> rfl
theorem rdO_tail {w : World} {b off : Nat} {x : One} {r : List One} (hc : ∀ i, i < (x :: r).length → w.cell? ⟨b, off + i * 2, none⟩ = some (.int .u64 ((x :: r).getD i (0, 0)).1) ∧ w.cell? ⟨b, off + i * 2 + 1, none⟩ = some (.int .i64 ((x :: r).getD i (0, 0)).2)) :
    RdO w (some ⟨b, off + 2, none⟩) r := by
  refine .inr ⟨b, off + 2, rfl, fun i hi => ?_⟩
  have := hc (i + 1) (by simp; omega)
  rw [show off + (i + 1) * 2 = off + 2 + i * 2 by omega] at this
  simpa using this
theorem ref_end {w W : World} {most : Nat} {a : Option Addr} {l l2 : List One} {t v : Int} {val : Value} (hp : putL l most t v = (l2 ++ [(t, v)], true)) (hown : W.ownsRow w.heap.size 33 2 val (l2.length + 1) (cellsL l2 ++ [.int .u64 t, .int .i64 v])) (hbel : Below w.heap.size w W) :
    RefPost w most a l t v (.returned (.tuple #[val, .bool true])) W := by
  unfold RefPost
  rw [hp]
  obtain ⟨a', cap, rfl, h1, h2, h3, h4⟩ := rdO_own (l := l2 ++ [(t, v)]) (by rw [cellsL_append]; exact hown) (by simp)
  exact ⟨a', cap, by simp, h1, by simpa using h2, h3, hbel, fun ad h => .inr (h4 ad h)⟩

set_option maxHeartbeats 2000000 in
theorem refPut_room (a : Option Addr) (l : List One) (cap most : Nat) (t v : Int) (w : World) (hr : RdO w a l) (hl : l.length ≤ 1000) (hcap : l.length ≤ cap) (hnil : a = none → cap = 0)
    (h : ¬ (t = 0 ∨ v < 1 ∨ 3 < v ∨ (getL l t ≠ 0 ∧ getL l t ≠ v))) (hv : getL l t ≠ v) (hm : 1 ≤ most) (hm2 : most ≤ 64) (hlt : ¬ most ≤ l.length) :
    Calls Try.prog 8 #[.slice a l.length cap, .int .i64 most, .int .u64 t, .int .i64 v] w (RefPost w most a l t v) := by
  have hp : putL l most t v = (l ++ [(t, v)], true) := by unfold putL; rw [if_neg h, if_neg hv, if_neg hlt]
  have hG := refGet_any a l cap t w hr hl
  have h0 : getL l t = 0 := by omega
  rw [h0] at hG
  have d1 : (t == (0 : Int)) = false := by simp; omega
  have d2 : decide (v < (1 : Int)) = false := by simp; omega
  have d3 : decide ((3 : Int) < v) = false := by simp; omega
  have d4 : ((0 : Int) == v) = false := by simp; omega
  obtain ⟨i0, hi, hz0, hz1, hz2⟩ := info_parts info33
  have HP := hidden hp
  clear h hv h0 hp
  go_enter Try.func8, Try.ntmps8
  go_wp2_with fail
  refine hG.mono ?_
  rintro e w' ⟨rfl, rfl⟩
  clear hG
  go_wp2_with (first
    | (at_builtin; refine wpList_cloneO w rfl (.tmp 44) (.tmp 45) rfl rfl a l.length cap rfl hnil l rfl hr hl ?_; intro v1 W1 hown1 hbel1)
    | (at_builtin; refine wpList_append_own _ rfl (.tmp 46) (.tmp 50) 22 rfl w.heap.size 33 i0 _ 2 16 Try.underlying22 hi hz0 hz1 hz2 rfl (by decide) v1 l.length _ rfl (hown1.alloc _) ⟨W1.heap.size, 0, none⟩ 1 1 [.int .u64 t, .int .i64 v] rfl rfl (news2 W1 t v) (one2 t v) (by unfold maxLen; omega) (by omega) (by have := hbel1.size; simp; omega) ?_; intro v2 W2 hown2 hgrow2 _))
  have hbel2 := (hbel1.alloc hbel1.size (.cells #[.int .u64 t, .int .i64 v] 33)).grown hgrow2 (by have := hbel1.size; simp; omega) (own_ge hown1)
  go_ret2
  exact ref_end HP.out hown2 hbel2

set_option maxHeartbeats 2000000 in
theorem refPut_full (b off : Nat) (x : One) (r : List One) (cap most : Nat) (t v : Int) (w : World) (hr : RdO w (some ⟨b, off, none⟩) (x :: r)) (hl : (x :: r).length ≤ 1000) (hcap : (x :: r).length ≤ cap)
    (h : ¬ (t = 0 ∨ v < 1 ∨ 3 < v ∨ (getL (x :: r) t ≠ 0 ∧ getL (x :: r) t ≠ v))) (hv : getL (x :: r) t ≠ v) (hm : 1 ≤ most) (hm2 : most ≤ 64) (hlt : most ≤ (x :: r).length) :
    Calls Try.prog 8 #[.slice (some ⟨b, off, none⟩) (r.length + 1) cap, .int .i64 most, .int .u64 t, .int .i64 v] w (RefPost w most (some ⟨b, off, none⟩) (x :: r) t v) := by
  have hp : putL (x :: r) most t v = (r ++ [(t, v)], true) := by unfold putL; rw [if_neg h, if_neg hv, if_pos hlt]; rfl
  have hG := refGet_any (some ⟨b, off, none⟩) (x :: r) cap t w hr hl
  have h0 : getL (x :: r) t = 0 := by omega
  rw [h0] at hG
  have d1 : (t == (0 : Int)) = false := by simp; omega
  have d2 : decide (v < (1 : Int)) = false := by simp; omega
  have d3 : decide ((3 : Int) < v) = false := by simp; omega
  have d4 : ((0 : Int) == v) = false := by simp; omega
  obtain ⟨i0, hi, hz0, hz1, hz2⟩ := info_parts info33
  have HP := hidden hp
  clear h hv h0 hp
  rw [List.length_cons] at hl hcap hG hlt
  by_cases hc1 : cap = 1
  · subst hc1
    obtain rfl : r = [] := List.eq_nil_of_length_eq_zero (by omega)
    simp only [List.length_nil, Nat.zero_add] at hl hcap hG hlt ⊢
    have hlt' : (most : Int) ≤ 1 := by omega
    clear hr
    go_enter Try.func8, Try.ntmps8
    go_wp2_with fail
    refine hG.mono ?_
    rintro e w' ⟨rfl, rfl⟩
    clear hG
    go_wp2_with (first
      | (at_builtin; refine wpList_cloneO w rfl (.tmp 44) (.tmp 45) rfl rfl (some ⟨b, off, none⟩) 0 0 rfl (by simp) [] rfl (.inl rfl) (by omega) ?_; intro v1 W1 hown1 hbel1)
      | (at_builtin; refine wpList_append_own _ rfl (.tmp 46) (.tmp 50) 22 rfl w.heap.size 33 i0 _ 2 16 Try.underlying22 hi hz0 hz1 hz2 rfl (by decide) v1 0 _ rfl (hown1.alloc _) ⟨W1.heap.size, 0, none⟩ 1 1 [.int .u64 t, .int .i64 v] rfl rfl (news2 W1 t v) (one2 t v) (by unfold maxLen; omega) (by omega) (by have := hbel1.size; simp; omega) ?_; intro v2 W2 hown2 hgrow2 _))
    have hbel2 := (hbel1.alloc hbel1.size (.cells #[.int .u64 t, .int .i64 v] 33)).grown hgrow2 (by have := hbel1.size; simp; omega) (own_ge hown1)
    go_ret2
    exact ref_end HP.out hown2 hbel2
  · have hr2 : RdO w (some ⟨b, off + 2, none⟩) r := by
      obtain ⟨b', off', he, hc⟩ := hr.resolve_left (by simp)
      simp only [Option.some.injEq, Addr.mk.injEq, and_true] at he
      obtain ⟨rfl, rfl⟩ := he
      exact rdO_tail hc
    have q1 : (1 : Int) ≤ (cap : Int) := by omega
    have q2 : ¬ cap ≤ 1 := by omega
    clear hr
    go_enter Try.func8, Try.ntmps8
    go_wp2_with fail
    refine hG.mono ?_
    rintro e w' ⟨rfl, rfl⟩
    clear hG
    go_wp2_with (first
      | (at_builtin; refine wpList_cloneO w rfl (.tmp 44) (.tmp 45) rfl rfl (some ⟨b, off + 2, none⟩) r.length (cap - 1) rfl (by simp) r rfl hr2 (by omega) ?_; intro v1 W1 hown1 hbel1)
      | (at_builtin; refine wpList_append_own _ rfl (.tmp 46) (.tmp 50) 22 rfl w.heap.size 33 i0 _ 2 16 Try.underlying22 hi hz0 hz1 hz2 rfl (by decide) v1 r.length _ rfl (hown1.alloc _) ⟨W1.heap.size, 0, none⟩ 1 1 [.int .u64 t, .int .i64 v] rfl rfl (news2 W1 t v) (one2 t v) (by unfold maxLen; omega) (by omega) (by have := hbel1.size; simp; omega) ?_; intro v2 W2 hown2 hgrow2 _))
    have hbel2 := (hbel1.alloc hbel1.size (.cells #[.int .u64 t, .int .i64 v] 33)).grown hgrow2 (by have := hbel1.size; simp; omega) (own_ge hown1)
    go_ret2
    exact ref_end HP.out hown2 hbel2

/-- The document's put, whatever is put. -/
theorem refPut_any (a : Option Addr) (l : List One) (cap most : Nat) (t v : Int) (w : World) (hr : RdO w a l) (hl : l.length ≤ 1000) (hcap : l.length ≤ cap) (hnil : a = none → cap = 0) (hm : 1 ≤ most) (hm2 : most ≤ 64) :
    Calls Try.prog 8 #[.slice a l.length cap, .int .i64 most, .int .u64 t, .int .i64 v] w (RefPost w most a l t v) := by
  by_cases h : t = 0 ∨ v < 1 ∨ 3 < v ∨ (getL l t ≠ 0 ∧ getL l t ≠ v)
  · exact refPut_same a l cap most t v w hr hl hcap hnil h
  by_cases hv : getL l t = v
  · exact refPut_old a l cap most t v w hr hl hcap hnil h hv
  by_cases hlt : most ≤ l.length
  · obtain ⟨x, r, rfl⟩ : ∃ x r, l = x :: r := by
      cases l with
      | nil => simp at hlt; omega
      | cons x r => exact ⟨x, r, rfl⟩
    obtain ⟨b, off, rfl, hc⟩ := hr.resolve_left (by simp)
    exact refPut_full b off x r cap most t v w hr hl hcap h hv hm hm2 hlt
  · exact refPut_room a l cap most t v w hr hl hcap hnil h hv hm hm2 hlt

end Go.Proofs.Ytlfefopcdfkngaa
