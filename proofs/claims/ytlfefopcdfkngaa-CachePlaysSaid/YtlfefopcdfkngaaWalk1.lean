/-
  The walks of the cache, each function once.
-/
import Derived.Test.YtlfefopcdfkngaaRows
import Derived.Test.YtlfefopcdfkngaaMath
import Derived.WalkKit
import Derived.WalkSpells
import Derived.WalkLawsBesides
import Derived.WalkSmall
import Derived.Maps.Own
import Derived.Maps.OwnOps
import Derived.Maps.OwnSet
import Derived.StillTailTactics
import Derived.Deep.RegionHeld3
import Derived.Deep.RegionLaw
import Derived.Deep.AppendLies
import Derived.OwnWalk
import Derived.Deep.QuietTactic
import Derived.BigQuiet
import Derived.Outline
namespace Go.Proofs.Ytlfefopcdfkngaa
set_option linter.unusedVariables false
set_option linter.unusedSimpArgs false
open Go.RowKit

theorem hidden {p : Prop} (h : p) : Hid p := h
theorem law : Maps.Keyed Try.prog 30 := Maps.int_keyed Try.underlying30
theorem zeroE (w : World) : (zeroValue 31).run Try.prog w = .ok (.int .i64 0) w := by kernel_rfl

/-- A cache in memory: its struct in block g, its map in block B; it holds the list l. -/
def Ca (w : World) (g B : Nat) (most : Nat) (l : List One) : Prop :=
  ∃ (first : Nat) (C : Array Value) (D : DataW Unit), w.heap[g]? = some (.cells C 44 (0, 0)) ∧ C.size = 67 ∧ C[64]? = some (.int .i64 first) ∧ C[65]? = some (.int .i64 most) ∧ C[66]? = some (.map (some B)) ∧
    first < most ∧ most ≤ 64 ∧ (l.length < most → first = 0) ∧ (∀ i, i < l.length → C[(first + i) % most]? = some (.int .u64 ((keysL l).getD i 0))) ∧
    w.ownsMap Try.prog 30 (plainElem Try.prog 31) B 64 D ∧ Rel D l ∧ g ≠ B ∧ Good most l

theorem wpList_build {P : Program} {w : World} {ops : Array Oper} {rest : List Oper} {o : Oper} {a : Act} {Q : Exit → Act → World → Prop} (hgd : o.guard = none) (t : TypeId) (parts : Array (Nat × Operand)) (ho : o.op = .build t parts)
    (vals : List (Nat × Value)) (hvals : parts.toList.map (fun x => (x.1, a.eval x.2)) = vals) (v : Value) (hrun : (Instr.build t vals.toArray).run P w = .ok v w) (h : wpList P ops Q rest (a.put o.dst v) w) : wpList P ops Q (o :: rest) a w := by
  have hv : parts.map (fun x => (x.1, a.eval x.2)) = vals.toArray := by rw [← hvals]; apply Array.ext'; simp
  rw [← hv] at hrun
  refine wpList_plain hgd fun K hK => ?_
  unfold Oper.wp
  simp [execOp, ho, hrun, Result.andThen]
  exact hK _ _ h
/-- The cells of a new cache. -/
def cells0 (m : Int) (B : Nat) : Array Value := Array.replicate 64 (.int .u64 0) ++ #[.int .i64 0, .int .i64 m, .map (some B)]
theorem run_build0 (w : World) (m : Int) (B : Nat) : (Instr.build 44 #[(2, .int .i64 m), (3, .map (some B))]).run Try.prog w = .ok (.agg (cells0 m B)) w := by kernel_rfl
theorem cells0_size (m : Int) (B : Nat) : (cells0 m B).size = 67 := by simp [cells0]

theorem ca_new (w : World) (most : Nat) (h1 : 1 ≤ most) (h2 : most ≤ 64) : Ca ((w.alloc (.map #[] 0)).alloc (.cells (cells0 most w.heap.size) 44)) (w.heap.size + 1) w.heap.size most [] := by
  refine ⟨0, cells0 most w.heap.size, .map [], heap_alloc2_new w _ _, cells0_size _ _, by simp [cells0], by simp [cells0], by simp [cells0], by omega, h2, fun _ => rfl, fun i hi => by simp at hi, ?_, rel_nil, by omega, good_nil _⟩
  exact ((World.ownsMap_made w Try.prog 30 (plainElem Try.prog 31)).mono (Nat.zero_le _)).alloc _

set_option maxHeartbeats 400000 in
theorem new_any (most : Nat) (h1 : 1 ≤ most) (h2 : most ≤ 64) (w : World) :
    Calls Try.prog 7 #[.int .i64 most] w fun e w' => e = .returned (.tuple #[.pointer (some ⟨w.heap.size + 1, 0, none⟩), .int .i64 0]) ∧ Ca w' (w.heap.size + 1) w.heap.size most [] ∧ Below w.heap.size w w' ∧ w'.heap.size = w.heap.size + 2 := by
  have hmm := @run_makeMap Try.prog
  have d1 : decide ((most : Int) < 1) = false := by simp; omega
  have d2 : decide ((64 : Int) < (most : Int)) = false := by simp; omega
  go_enter Try.func7, Try.ntmps7
  go_wp2_with (refine wpList_build rfl 44 #[(2, .tmp 10), (3, .tmp 11)] rfl [(2, .int .i64 most), (3, .map (some w.heap.size))] rfl _ (run_build0 _ most w.heap.size) ?_)
  go_ret2
  exact ⟨rfl, ca_new w most h1 h2, ((Below.refl _ _).alloc (Nat.le_refl _) _).alloc (by simp) _, by simp⟩

set_option maxHeartbeats 400000 in
theorem new_bad (most : Int) (h : most < 1 ∨ 64 < most) (w : World) :
    Calls Try.prog 7 #[.int .i64 most] w fun e w' => e = .returned (.tuple #[.pointer none, .int .i64 1]) ∧ w = w' := by
  by_cases h1 : most < 1
  · have d1 : decide (most < 1) = true := by simpa using h1
    go_enter Try.func7, Try.ntmps7
    go_wp2
    go_ret2
    exact ⟨rfl, rfl⟩
  · have d1 : decide (most < 1) = false := by simpa using h1
    have d2 : decide ((64 : Int) < most) = true := by simp; omega
    go_enter Try.func7, Try.ntmps7
    go_wp2
    go_ret2
    exact ⟨rfl, rfl⟩

set_option maxHeartbeats 400000 in
theorem get_nil (t : Int) (w : World) : Calls Try.prog 11 #[.pointer none, .int .u64 t] w fun e w' => e = .returned (.int .i64 0) ∧ w = w' := by
  go_enter Try.func11, Try.ntmps11
  go_wp2
  go_ret
  exact ⟨rfl, rfl⟩

theorem wf_u64 {t : Int} (h0 : 0 ≤ t) (h1 : t < 18446744073709551616) : (Lit.int .u64 t).wf = true := by
  simp [Lit.wf, IntKind.min, IntKind.max, IntKind.signed, IntKind.bits]; omega

set_option maxHeartbeats 400000 in
theorem get_any (g B most : Nat) (l : List One) (t : Int) (h0 : 0 ≤ t) (h1 : t < 18446744073709551616) (w : World) (h : Ca w g B most l) :
    Calls Try.prog 11 #[.pointer (some ⟨g, 0, none⟩), .int .u64 t] w fun e w' => e = .returned (.int .i64 (getL l t)) ∧ w = w' := by
  obtain ⟨first, C, D, hg, hC, _, _, h66, _, _, _, _, hown, hrel, _, _⟩ := h
  have c66 : w.cell? ⟨g, 66, none⟩ = some (.map (some B)) := by rw [cell_of_row w g 66 C 44 (0, 0) hg]; exact h66
  have hkey := Maps.keyOf_int_mk Try.underlying30 (wf_u64 h0 h1)
  have hat := hidden (hrel.at' t)
  clear hg hrel h66 hC
  go_enter Try.func11, Try.ntmps11
  go_wp2_with (at_lookup; refine wpList_lookup_own_int _ rfl _ _ 41 rfl 30 31 .i64 law Try.underlying41 Try.underlying31 (zeroE _) B 64 D rfl hown _ _ rfl hkey ?_; intro c hc hw)
  go_ret
  have : c = getL l t := by
    have := hc.symm.trans hat.out
    simpa using this
  exact ⟨by rw [this]; rfl, rfl⟩

set_option maxHeartbeats 400000 in
theorem put_nil (t v : Int) (w : World) : Calls Try.prog 9 #[.pointer none, .int .u64 t, .int .i64 v] w fun e w' => e = .returned (.bool false) ∧ w = w' := by
  go_enter Try.func9, Try.ntmps9
  go_wp2
  go_ret
  exact ⟨rfl, rfl⟩

set_option maxHeartbeats 400000 in
theorem put_bad (a : Addr) (t v : Int) (h : t = 0 ∨ v < 1 ∨ 3 < v) (w : World) : Calls Try.prog 9 #[.pointer (some a), .int .u64 t, .int .i64 v] w fun e w' => e = .returned (.bool false) ∧ w = w' := by
  by_cases h1 : t = 0
  · have d1 : (t == (0 : Int)) = true := by simpa using h1
    clear h h1
    go_enter Try.func9, Try.ntmps9
    go_wp2
    go_ret
    exact ⟨rfl, rfl⟩
  have d1 : (t == (0 : Int)) = false := by simpa using h1
  by_cases h2 : v < 1
  · have d2 : decide (v < (1 : Int)) = true := by simpa using h2
    clear h h1
    go_enter Try.func9, Try.ntmps9
    go_wp2
    go_ret
    exact ⟨rfl, rfl⟩
  have d2 : decide (v < (1 : Int)) = false := by simpa using h2
  have d3 : decide ((3 : Int) < v) = true := by simp; omega
  clear h h1
  go_enter Try.func9, Try.ntmps9
  go_wp2
  go_ret
  exact ⟨rfl, rfl⟩

set_option maxHeartbeats 400000 in
theorem put_old (g B most : Nat) (l : List One) (t v : Int) (h0 : 0 < t) (h1 : t < 18446744073709551616) (hv1 : 1 ≤ v) (hv3 : v ≤ 3) (w : World) (h : Ca w g B most l) (hk : t ∈ keysL l) :
    Calls Try.prog 9 #[.pointer (some ⟨g, 0, none⟩), .int .u64 t, .int .i64 v] w fun e w' => e = .returned (.bool (getL l t == v)) ∧ w = w' := by
  obtain ⟨first, C, D, hg, hC, _, _, h66, _, _, _, _, hown, hrel, _, _⟩ := h
  have c66 : w.cell? ⟨g, 66, none⟩ = some (.map (some B)) := by rw [cell_of_row w g 66 C 44 (0, 0) hg]; exact h66
  have hkey := Maps.keyOf_int_mk Try.underlying30 (wf_u64 (by omega) h1)
  have hat := hidden (hrel.at' t)
  have hhas : Maps.has D (.int .u64 t) = true := by rw [hrel.has]; simpa using hk
  have d1 : (t == (0 : Int)) = false := by simp; omega
  have d2 : decide (v < (1 : Int)) = false := by simp; omega
  have d3 : decide ((3 : Int) < v) = false := by simp; omega
  clear hg hrel h66 hC hk
  go_enter Try.func9, Try.ntmps9
  go_wp2_with (at_lookup; refine wpList_lookup_own_ok_int _ rfl _ _ 41 rfl 30 31 .i64 law Try.underlying41 Try.underlying31 (zeroE _) B 64 D rfl hown _ _ rfl hkey ?_; intro c hc hw; rw [hhas])
  go_ret
  have : c = getL l t := by
    have := hc.symm.trans hat.out
    simpa using this
  exact ⟨by rw [this]; rfl, rfl⟩

/-- What a put may turn: the cache's two blocks. -/
structure Only (w w' : World) (g B : Nat) : Prop where
  os : w'.os = w.os
  tape : w'.tape = w.tape
  output : w'.output = w.output
  size : w'.heap.size = w.heap.size
  block : ∀ k, k ≠ g → k ≠ B → w'.heap[k]? = w.heap[k]?
theorem Only.refl (w : World) (g B : Nat) : Only w w g B := ⟨rfl, rfl, rfl, rfl, fun _ _ _ => rfl⟩
theorem Only.trans {a b c : World} {g B : Nat} (h : Only a b g B) (k : Only b c g B) : Only a c g B :=
  ⟨k.os.trans h.os, k.tape.trans h.tape, k.output.trans h.output, k.size.trans h.size, fun i h1 h2 => (k.block i h1 h2).trans (h.block i h1 h2)⟩
theorem Only.setCell (w : World) (g B j : Nat) (v : Value) : Only w (w.setCell ⟨g, j, none⟩ v) g B := ⟨rfl, rfl, rfl, by simp [World.setCell], fun k h1 _ => heap_setCell_other w ⟨g, j, none⟩ k v h1⟩
theorem Only.drew (w : World) (g B : Nat) : Only w w.drew g B := ⟨rfl, rfl, rfl, rfl, fun _ _ _ => rfl⟩
theorem Only.turned {w w' : World} {B : Nat} (h : w.mapTurned w' B) (g : Nat) : Only w w' g B := by
  obtain ⟨es, clock, es', clock', hb, rfl⟩ := h
  exact ⟨rfl, rfl, rfl, by simp [ChangeMaps.setBlock], fun k _ h2 => ChangeMaps.heap_setBlock_other hb _ h2⟩

theorem owns_tight {w : World} {B n : Nat} {D : DataW Unit} (h : w.ownsMap Try.prog 30 (plainElem Try.prog 31) B n D) (hs : Maps.size D ≤ 64) : w.ownsMap Try.prog 30 (plainElem Try.prog 31) B 64 D := by
  obtain ⟨es, clock, hb, F, _, rfl⟩ := h
  exact ⟨es, clock, hb, F, by simpa [Maps.size, length_sorted] using hs, rfl⟩
theorem getD_snoc (l : List Int) (x : Int) (i : Nat) : (l ++ [x]).getD i 0 = if i = l.length then x else l.getD i 0 := by
  rw [List.getD_eq_getElem?_getD, List.getElem?_append, List.getD_eq_getElem?_getD]
  by_cases h : i < l.length
  · rw [if_pos h, if_neg (by omega)]
  · rw [if_neg h]
    by_cases e : i = l.length
    · subst e; simp
    · rw [if_neg e, List.getElem?_eq_none (by simp; omega), List.getElem?_eq_none (by omega)]
theorem keysL_length (l : List One) : (keysL l).length = l.length := by simp [keysL]
theorem keysL_snoc (l : List One) (t v : Int) : keysL (l ++ [(t, v)]) = keysL l ++ [t] := by simp [keysL]

theorem ca_room {w : World} {g B most : Nat} {l : List One} {t v : Int} {C : Array Value} {D : DataW Unit} (h0 : 0 < t) (h1 : t < 18446744073709551616) (hv1 : 1 ≤ v) (hv3 : v ≤ 3)
    (hg : w.heap[g]? = some (.cells (C.setIfInBounds l.length (.int .u64 t)) 44 (0, 0))) (hC : C.size = 67) (h64 : C[64]? = some (.int .i64 (0 : Nat))) (h65 : C[65]? = some (.int .i64 most)) (h66 : C[66]? = some (.map (some B)))
    (hm64 : most ≤ 64) (hring : ∀ i, i < l.length → C[(0 + i) % most]? = some (.int .u64 ((keysL l).getD i 0))) (hown : w.ownsMap Try.prog 30 (plainElem Try.prog 31) B 65 (D.put (.int .u64 t) (.lit (.int .i64 v)))) (hrel : Rel D l) (hgB : g ≠ B)
    (hgood : Good most l) (hk : t ∉ keysL l) (hlt : l.length < most) : Ca w g B most (l ++ [(t, v)]) := by
  have hrel' := hrel.put t v hk (hown.tidy law)
  have hgood' : Good most (l ++ [(t, v)]) := by
    have := hgood.put t v ⟨by omega, h1⟩ (by omega)
    have h0' : getL l t = 0 := by
      by_cases q : getL l t = 0
      · exact q
      · exact absurd ((getL_mem l t (fun x hx => (hgood.one x hx).2.2.1)).1 q) hk
    unfold putL at this
    rw [if_neg (by omega), if_neg (by omega), if_neg (by omega)] at this
    exact this
  refine ⟨0, C.setIfInBounds l.length (.int .u64 t), _, hg, by simp [hC], ?_, ?_, ?_, by omega, hm64, fun _ => rfl, fun i hi => ?_, owns_tight hown (by rw [hrel'.size]; simp; omega), hrel', hgB, hgood'⟩
  · rw [Array.getElem?_setIfInBounds, if_neg (by omega)]; exact h64
  · rw [Array.getElem?_setIfInBounds, if_neg (by omega)]; exact h65
  · rw [Array.getElem?_setIfInBounds, if_neg (by omega)]; exact h66
  · rw [List.length_append, List.length_singleton] at hi
    rw [Nat.zero_add, Nat.mod_eq_of_lt (by omega), keysL_snoc, getD_snoc, keysL_length, Array.getElem?_setIfInBounds]
    by_cases e : l.length = i
    · subst e
      rw [if_pos rfl, if_pos rfl, if_pos (by omega)]
    · rw [if_neg e, if_neg (fun q => e q.symm)]
      have := hring i (by omega)
      rwa [Nat.zero_add, Nat.mod_eq_of_lt (by omega)] at this

set_option maxHeartbeats 400000 in
theorem put_room (g B most : Nat) (l : List One) (t v : Int) (h0 : 0 < t) (h1 : t < 18446744073709551616) (hv1 : 1 ≤ v) (hv3 : v ≤ 3) (w : World) (h : Ca w g B most l) (hk : t ∉ keysL l) (hlt : l.length < most) :
    Calls Try.prog 9 #[.pointer (some ⟨g, 0, none⟩), .int .u64 t, .int .i64 v] w fun e w' => e = .returned (.bool true) ∧ Ca w' g B most (l ++ [(t, v)]) ∧ Only w w' g B := by
  obtain ⟨first, C, D, hg, hC, h64, h65, h66, hfm, hm64, hf0, hring, hown, hrel, hgB, hgood⟩ := h
  have c66 : w.cell? ⟨g, 66, none⟩ = some (.map (some B)) := by rw [cell_of_row w g 66 C 44 (0, 0) hg]; exact h66
  have c65 : w.cell? ⟨g, 65, none⟩ = some (.int .i64 most) := by rw [cell_of_row w g 65 C 44 (0, 0) hg]; exact h65
  have cn := cell_of_row w g l.length C 44 (0, 0) hg
  rw [Array.getElem?_eq_getElem (by omega)] at cn
  have fn := frozen_of_row w g l.length C 44 hg
  have hkey := Maps.keyOf_int_mk Try.underlying30 (wf_u64 (by omega) h1)
  have hhas : Maps.has D (.int .u64 t) = false := by rw [hrel.has]; simpa using hk
  have d1 : (t == (0 : Int)) = false := by simp; omega
  have d2 : decide (v < (1 : Int)) = false := by simp; omega
  have d3 : decide ((3 : Int) < v) = false := by simp; omega
  have hsz := hrel.size
  have hw64 : (l.length : Int) < 64 := by omega
  have hwv : (Lit.int .i64 v).wf = true := WalkArith.wf_i64 (by omega)
  go_enter Try.func9, Try.ntmps9
  go_wp2_with (first
    | (at_lookup; refine wpList_lookup_own_ok_int _ rfl _ _ 41 rfl 30 31 .i64 law Try.underlying41 Try.underlying31 (zeroE _) B 64 D rfl hown _ _ rfl hkey ?_; intro c hc hw; rw [hhas])
    | (at_len; refine wpList_len_own _ rfl _ 41 rfl 30 31 Try.underlying41 _ B 64 D rfl hown ?_; rw [hsz])
    | (at_mapUpdate; refine wpList_mapUpdate_in _ rfl (.tmp 92) (.tmp 93) (.tmp 94) 41 rfl 30 31 law Try.underlying41 (plainElem Try.prog 31) B 64 D rfl (hown.setCell (fun e => hgB e.symm) _) (by unfold maxLen; omega) _ _ _ rfl rfl hkey (.lit (.int .i64 v)) [] (plainElem_int Try.underlying31 hwv) ?_; intro w1 hown1 hturn))
  go_ret
  have ho := (Only.setCell w g B l.length (.int .u64 t)).trans (Only.turned hturn g)
  have hg1 : w1.heap[g]? = some (.cells (C.setIfInBounds l.length (.int .u64 t)) 44 (0, 0)) := by
    rw [(Only.turned hturn B).block g hgB hgB]
    exact heap_setCell_same w g l.length C 44 _ hg
  obtain rfl := hf0 hlt
  exact ⟨rfl, ca_room h0 h1 hv1 hv3 hg1 hC h64 h65 h66 hm64 hring hown1 hrel hgB hgood hk hlt, ho⟩

theorem ca_full {w : World} {g B most : Nat} {t0 v0 : Int} {r : List One} {t v : Int} {first : Nat} {C : Array Value} {D : DataW Unit} (h0 : 0 < t) (h1 : t < 18446744073709551616) (hv1 : 1 ≤ v) (hv3 : v ≤ 3)
    (hg : w.heap[g]? = some (.cells ((C.setIfInBounds first (.int .u64 t)).setIfInBounds 64 (.int .i64 ((first + 1) % most : Nat))) 44 (0, 0))) (hC : C.size = 67) (h64 : C[64]? = some (.int .i64 first)) (h65 : C[65]? = some (.int .i64 most)) (h66 : C[66]? = some (.map (some B)))
    (hfm : first < most) (hm64 : most ≤ 64) (hring : ∀ i, i < ((t0, v0) :: r).length → C[(first + i) % most]? = some (.int .u64 ((keysL ((t0, v0) :: r)).getD i 0)))
    (hown : w.ownsMap Try.prog 30 (plainElem Try.prog 31) B 65 ((D.del (.int .u64 t0)).put (.int .u64 t) (.lit (.int .i64 v)))) (hrel : Rel D ((t0, v0) :: r)) (hgB : g ≠ B)
    (hgood : Good most ((t0, v0) :: r)) (hk : t ∉ keysL ((t0, v0) :: r)) (hlt : r.length + 1 = most) : Ca w g B most (r ++ [(t, v)]) := by
  have hnd := hgood.nodup
  simp only [keysL, List.map_cons, List.nodup_cons] at hnd
  have htidy : Maps.Tidy (D.del (.int .u64 t0)) := by
    obtain ⟨es, rfl, hp⟩ := hrel.tidy
    exact ⟨_, rfl, hp.filter _⟩
  have hk' : t ∉ keysL r := fun q => hk (by simp only [keysL, List.map_cons, List.mem_cons]; exact .inr q)
  have hrel' := (hrel.del hnd.1 htidy).put t v hk' (hown.tidy law)
  have hgood' : Good most (r ++ [(t, v)]) := by
    have := hgood.put t v ⟨by omega, h1⟩ (by omega)
    have h0' : getL ((t0, v0) :: r) t = 0 := by
      by_cases q : getL ((t0, v0) :: r) t = 0
      · exact q
      · exact absurd ((getL_mem _ t (fun x hx => (hgood.one x hx).2.2.1)).1 q) hk
    unfold putL at this
    rw [if_neg (by omega), if_neg (by omega), if_pos (by simp; omega)] at this
    exact this
  have hmlt : (first + 1) % most < most := Nat.mod_lt _ (by omega)
  refine ⟨(first + 1) % most, _, _, hg, by simp [hC], ?_, ?_, ?_, hmlt, hm64, fun q => by simp at q; omega, fun i hi => ?_, owns_tight hown (by rw [hrel'.size]; simp; omega), hrel', hgB, hgood'⟩
  · rw [Array.getElem?_setIfInBounds, if_pos rfl, if_pos (by simp; omega)]
  · rw [Array.getElem?_setIfInBounds, if_neg (by omega), Array.getElem?_setIfInBounds, if_neg (by omega)]; exact h65
  · rw [Array.getElem?_setIfInBounds, if_neg (by omega), Array.getElem?_setIfInBounds, if_neg (by omega)]; exact h66
  · rw [List.length_append, List.length_singleton] at hi
    have e1 : ((first + 1) % most + i) % most = (first + (i + 1)) % most := by rw [Nat.mod_add_mod]; congr 1; omega
    have e2 : (first + (i + 1)) % most < most := Nat.mod_lt _ (by omega)
    rw [e1, Array.getElem?_setIfInBounds, if_neg (by omega), Array.getElem?_setIfInBounds, keysL_snoc, getD_snoc, keysL_length]
    by_cases e : i = r.length
    · have e3 : (first + (i + 1)) % most = first := by
        rw [e, hlt, Nat.add_mod_right, Nat.mod_eq_of_lt hfm]
      rw [if_pos e3.symm, if_pos (by omega), if_pos e]
    · have hne : ¬ first = (first + (i + 1)) % most := by
        intro q
        by_cases hw : first + (i + 1) < most
        · rw [Nat.mod_eq_of_lt hw] at q; omega
        · rw [Nat.mod_eq_sub_mod (by omega), Nat.mod_eq_of_lt (by omega)] at q; omega
      rw [if_neg hne, if_neg e]
      have := hring (i + 1) (by simp; omega)
      rw [this]
      simp [keysL]

set_option maxHeartbeats 1000000 in
theorem put_full (g B most : Nat) (t0 v0 : Int) (r : List One) (t v : Int) (h0 : 0 < t) (h1 : t < 18446744073709551616) (hv1 : 1 ≤ v) (hv3 : v ≤ 3) (w : World) (h : Ca w g B most ((t0, v0) :: r)) (hk : t ∉ keysL ((t0, v0) :: r)) (hlt : r.length + 1 = most) :
    Calls Try.prog 9 #[.pointer (some ⟨g, 0, none⟩), .int .u64 t, .int .i64 v] w fun e w' => e = .returned (.bool true) ∧ Ca w' g B most (r ++ [(t, v)]) ∧ Only w w' g B := by
  obtain ⟨first, C, D, hg, hC, h64, h65, h66, hfm, hm64, hf0, hring, hown, hrel, hgB, hgood⟩ := h
  have c66 : w.cell? ⟨g, 66, none⟩ = some (.map (some B)) := by rw [cell_of_row w g 66 C 44 (0, 0) hg]; exact h66
  have c65 : w.cell? ⟨g, 65, none⟩ = some (.int .i64 most) := by rw [cell_of_row w g 65 C 44 (0, 0) hg]; exact h65
  have c64 : w.cell? ⟨g, 64, none⟩ = some (.int .i64 first) := by rw [cell_of_row w g 64 C 44 (0, 0) hg]; exact h64
  have hr0 := hring 0 (by simp)
  rw [Nat.add_zero, Nat.mod_eq_of_lt hfm] at hr0
  have cf : w.cell? ⟨g, first, none⟩ = some (.int .u64 t0) := by rw [cell_of_row w g first C 44 (0, 0) hg]; exact hr0
  have hkey := Maps.keyOf_int_mk Try.underlying30 (wf_u64 (by omega) h1)
  have hkey0 := Maps.keyOf_int_mk Try.underlying30 (wf_u64 (Int.le_of_lt (hgood.one _ (List.mem_cons_self ..)).1) (hgood.one _ (List.mem_cons_self ..)).2.1)
  have hhas : Maps.has D (.int .u64 t) = false := by rw [hrel.has]; simpa using hk
  have d1 : (t == (0 : Int)) = false := by simp; omega
  have d2 : decide (v < (1 : Int)) = false := by simp; omega
  have d3 : decide ((3 : Int) < v) = false := by simp; omega
  have hsz := hrel.size
  rw [List.length_cons, hlt] at hsz
  have hwv : (Lit.int .i64 v).wf = true := WalkArith.wf_i64 (by omega)
  have q1 : (first : Int) < 64 := by omega
  have q2 : (0 : Int) ≤ (first : Int) := by omega
  have Hlt := hidden hlt
  have HR := hidden hring
  clear hlt hring hr0
  go_enter Try.func9, Try.ntmps9
  go_wp2_with (first
    | (at_lookup; refine wpList_lookup_own_ok_int _ rfl _ _ 41 rfl 30 31 .i64 law Try.underlying41 Try.underlying31 (zeroE _) B 64 D rfl hown _ _ rfl hkey ?_; intro c hc hw; rw [hhas])
    | (at_len; refine wpList_len_own _ rfl _ 41 rfl 30 31 Try.underlying41 _ B 64 D rfl hown ?_; rw [hsz]))
  go_still_tail 13, (by kernel_rfl)
  go_wp2_with (at_delete; refine wpList_delete_own _ rfl _ _ 41 30 rfl 31 law Try.underlying41 (plainElem Try.prog 31) B 64 D rfl hown _ _ rfl hkey0 ?_; intro w1 hown1 hturn1)
  have hg1 : w1.heap[g]? = some (.cells C 44 (0, 0)) := ((Only.turned hturn1 B).block g hgB hgB).trans hg
  have e64 : w1.cell? ⟨g, 64, none⟩ = some (.int .i64 first) := by rw [cell_of_row w1 g 64 C 44 (0, 0) hg1]; exact h64
  have ef := cell_of_row w1 g first C 44 (0, 0) hg1
  rw [Array.getElem?_eq_getElem (by omega)] at ef
  have ff := frozen_of_row w1 g first C 44 hg1
  have Only1 := (Only.drew w g B).trans (Only.turned hturn1 g)
  clear c66 c65 c64 cf hg hown hturn1
  go_still_tail 9, (by kernel_rfl)
  go_wp2_with fail
  obtain ⟨w2, hw2⟩ : ∃ w2, w2 = (w1.setCell ⟨g, first, none⟩ (.int .u64 t)).drew := ⟨_, rfl⟩
  rw [← hw2]
  have hg2 : w2.heap[g]? = some (.cells (C.setIfInBounds first (.int .u64 t)) 44 (0, 0)) := by rw [hw2]; exact heap_setCell_same w1 g first C 44 _ hg1
  have hown2 : w2.ownsMap Try.prog 30 (plainElem Try.prog 31) B 64 (D.del (.int .u64 t0)) := by rw [hw2]; exact (hown1.setCell (fun e => hgB e.symm) _).drew
  have Only2 : Only w1 w2 g B := by rw [hw2]; exact (Only.setCell w1 g B first _).trans (Only.drew _ _ _)
  clear hw2 e64 ef ff hg1 hown1
  have f64 : w2.cell? ⟨g, 64, none⟩ = some (.int .i64 first) := by rw [cell_of_row w2 g 64 _ 44 (0, 0) hg2, Array.getElem?_setIfInBounds, if_neg (by omega)]; exact h64
  have f65 : w2.cell? ⟨g, 65, none⟩ = some (.int .i64 most) := by rw [cell_of_row w2 g 65 _ 44 (0, 0) hg2, Array.getElem?_setIfInBounds, if_neg (by omega)]; exact h65
  have f66 : w2.cell? ⟨g, 66, none⟩ = some (.map (some B)) := by rw [cell_of_row w2 g 66 _ 44 (0, 0) hg2, Array.getElem?_setIfInBounds, if_neg (by omega)]; exact h66
  have ff64 := frozen_of_row w2 g 64 _ 44 hg2
  have ewr : IntKind.i64.wrap ((first : Int) + 1) = (first : Int) + 1 := by rw [IntKind.wrap_i64]; omega
  have q3 : (0 : Int) ≤ (first : Int) + 1 := by omega
  have q4 : (1 : Int) ≤ (most : Int) := by omega
  have Hg2 := hidden hg2
  have n1 : ((most : Int) == 0) = false := by simp; omega
  have n2 : ¬ (most : Int) = 0 := by omega
  have n3 : ¬ most = 0 := by omega
  clear hg2
  go_still_tail 13, (by kernel_rfl)
  clear ewr q3 n1 n2 n3
  go_wp2_with (at_mapUpdate; refine wpList_mapUpdate_in _ rfl (.tmp 92) (.tmp 93) (.tmp 94) 41 rfl 30 31 law Try.underlying41 (plainElem Try.prog 31) B 64 _ rfl (hown2.setCell (fun e => hgB e.symm) _).drew (by unfold maxLen; omega) _ _ _ rfl rfl hkey (.lit (.int .i64 v)) [] (plainElem_int Try.underlying31 hwv) ?_; intro w3 hown3 hturn3)
  go_ret
  have hcast : ((first : Int) + 1) % (most : Int) = (((first + 1) % most : Nat) : Int) := by simp
  rw [hcast] at hturn3
  have Only3 := ((Only.setCell w2 g B 64 (.int .i64 ((first + 1) % most : Nat))).trans (Only.drew _ _ _)).trans (Only.turned hturn3 g)
  have hg3 : w3.heap[g]? = some (.cells ((C.setIfInBounds first (.int .u64 t)).setIfInBounds 64 (.int .i64 ((first + 1) % most : Nat))) 44 (0, 0)) := by
    rw [(Only.turned hturn3 B).block g hgB hgB]
    exact heap_setCell_same w2 g 64 _ 44 _ Hg2.out
  exact ⟨rfl, ca_full h0 h1 hv1 hv3 hg3 hC h64 h65 h66 hfm hm64 HR.out hown3 hrel hgB hgood hk Hlt.out, (Only1.trans Only2).trans Only3⟩

theorem info30 : (Try.prog.info? 30).map (fun i => (i.zero, i.size, i.bytes)) = some (some (.int .u64 0), 1, 8) := by kernel_rfl

set_option maxHeartbeats 400000 in
theorem all_nil (w : World) : Calls Try.prog 10 #[.pointer none] w fun e w' => e = .returned (.slice none 0 0) ∧ w = w' := by
  go_enter Try.func10, Try.ntmps10
  go_wp2
  go_ret
  exact ⟨rfl, rfl⟩

theorem take_getD_succ (l : List Int) (k : Nat) (h : k < l.length) : l.take (k + 1) = l.take k ++ [l.getD k 0] := by
  rw [List.take_succ_eq_append_getElem h, List.getD_eq_getElem?_getD, List.getElem?_eq_getElem h]; rfl

theorem own_ge {W : World} {B n e sz : Nat} {v : Value} {xs : List Value} (h : W.ownsRow B e sz v n xs) : ∀ k, v.ownBlock = some k → B ≤ k := by
  intro k hk
  rcases h.2 with ⟨rfl, _⟩ | ⟨g, cap, cur, rfl, hg, _⟩
  · cases hk
  · obtain rfl : g = k := by simpa [Value.ownBlock] using hk
    exact hg
def AllPost (w : World) (l : List One) (e : Ending) (w' : World) : Prop := ∃ v, e = .returned v ∧ w'.ownsRow w.heap.size 30 1 v l.length ((keysL l).map (Value.int .u64)) ∧ Below w.heap.size w w'

set_option maxRecDepth 100000 in
set_option maxHeartbeats 3200000 in
theorem all_any (g B most : Nat) (l : List One) (w : World) (h : Ca w g B most l) : Calls Try.prog 10 #[.pointer (some ⟨g, 0, none⟩)] w (AllPost w l) := by
  obtain ⟨first, C, D, hg, hC, h64, h65, h66, hfm, hm64, hf0, hring, hown, hrel, hgB, hgood⟩ := h
  have c66 : w.cell? ⟨g, 66, none⟩ = some (.map (some B)) := by rw [cell_of_row w g 66 C 44 (0, 0) hg]; exact h66
  have hsz := hrel.size
  obtain ⟨i0, hi0, hz0, hz1, hz2⟩ := info_parts info30
  have hglt : g < w.heap.size := (Array.getElem?_eq_some_iff.1 hg).1
  have hlen := hgood.len
  have HG := hidden hg
  clear hg
  go_enter Try.func10, Try.ntmps10
  go_wp2_with (at_len; refine wpList_len_own _ rfl _ 41 rfl 30 31 Try.underlying41 _ B 64 D rfl hown ?_; rw [hsz])
  clear c66 hown hsz
  go_loopw [2, 11] (fun v i wr => ∃ k : Nat, k ≤ l.length ∧ i = .int .i64 k ∧ wr.ownsRow w.heap.size 30 1 v k (((keysL l).take k).map (Value.int .u64)) ∧ Below w.heap.size w wr) (fun _ i _ => l.length - (intOf i).toNat)
  case atStart => exact ⟨0, Nat.zero_le _, rfl, World.ownsRow_nil _ _ _ _, Below.refl _ _⟩
  case round =>
    obtain ⟨k, hk, rfl, hown, hbel⟩ := hrel
    by_cases hlt : k < l.length
    · have hgr : wr.heap[g]? = some (.cells C 44 (0, 0)) := (hbel.block g hglt).trans HG.out
      have c65 : wr.cell? ⟨g, 65, none⟩ = some (.int .i64 most) := by rw [cell_of_row wr g 65 C 44 (0, 0) hgr]; exact h65
      have c64 : wr.cell? ⟨g, 64, none⟩ = some (.int .i64 first) := by rw [cell_of_row wr g 64 C 44 (0, 0) hgr]; exact h64
      have hml : (first + k) % most < most := Nat.mod_lt _ (by omega)
      have cr : wr.cell? ⟨g, (first + k) % most, none⟩ = some (.int .u64 ((keysL l).getD k 0)) := by rw [cell_of_row wr g _ C 44 (0, 0) hgr]; exact hring k hlt
      have hgl : g < wr.heap.size := by have := hbel.size; omega
      have ag : u2.ownBlock ≠ some g := fun e => by have := own_ge hown g e; omega
      have hcast : ((first : Int) + (k : Int)).tmod (most : Int) = (((first + k) % most : Nat) : Int) := by rw [Int.tmod_eq_emod_of_nonneg (by omega)]; simp
      have ewr : IntKind.i64.wrap ((first : Int) + (k : Int)) = (first : Int) + (k : Int) := by rw [IntKind.wrap_i64]; omega
      have n1 : ((most : Int) == 0) = false := by simp; omega
      have n2 : ¬ (most : Int) = 0 := by omega
      have n3 : ¬ most = 0 := by omega
      have hts := hidden (take_getD_succ (keysL l) k (by rw [keysL_length]; exact hlt))
      generalize (first + k) % most = m at hml cr hcast
      generalize (keysL l).getD k 0 = x0 at cr hts
      have m1 : (m : Int) < 64 := by omega
      have m0 : (0 : Int) ≤ (m : Int) := by omega
      go_wp2_with fail
      go_region_held3 (fun W => W.cell? ⟨g, 65, none⟩ = some (.int .i64 most) ∧ W.cell? ⟨g, 64, none⟩ = some (.int .i64 first) ∧ W.cell? ⟨g, m, none⟩ = some (.int .u64 x0))
        (first
          | go_keep
          | (go_split_ands
             refine ⟨?_, ?_, ?_⟩
             · (rw [hgrow.cell_far _ (by simp; omega) (Ne.symm ag)]; assumption)
             · (rw [hgrow.cell_far _ (by simp; omega) (Ne.symm ag)]; assumption)
             · (rw [hgrow.cell_far _ (by simp; omega) (Ne.symm ag)]; assumption)))
        ((refine step_append_lies _ (by rfl) _ _ _ (by rfl) w.heap.size 30 i0 _ 1 8 Try.underlying35 hi0 hz0 hz1 hz2 rfl (by omega) _ k _ (by rfl) ((hown.alloc _).drew) ⟨wr.heap.size, 0, none⟩ 1 1 [.int .u64 x0] (by rfl) (by rfl) (World.news_of_block (cs := #[.int .u64 x0]) (t := 30) (fr := (0, 0)) (heap_alloc_new wr _)) (by simp [Value.oneCell']) (by omega) (by unfold maxLen; omega) (by omega) (by have := hbel.size; simp; omega) (wr.heap.size + 1) (by simp) ?_; intro gg cap w1 hown1 hgrow hat hlt1))
      go_wp2_with fail
      go_roundw
      case rel => exact ⟨k + 1, by omega, by go_num, by rw [hts.out, List.map_append]; exact hown1, (((hbel.drew).alloc (by have := hbel.size; simpa using this) _).trans ((Below.refl _ _).grown hgrow (by have := hbel.size; simp; omega) (own_ge hown)))⟩
      case measure => simp [intOf]; omega
    · obtain rfl : k = l.length := by omega
      rw [← keysL_length l, List.take_length, keysL_length] at hown
      go_wp2_with fail
      go_ret
      exact ⟨_, rfl, hown, hbel⟩

end Go.Proofs.Ytlfefopcdfkngaa
