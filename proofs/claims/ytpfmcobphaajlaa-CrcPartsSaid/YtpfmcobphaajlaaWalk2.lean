/-
  The walks of the matrix: what it makes of a register, itself done twice, and the joining of two sums.
-/
import Derived.Test.YtpfmcobphaajlaaClone
import Derived.Test.YtpfmcobphaajlaaMath3
import Derived.Deep.QuietTactic
import Derived.BigQuiet
import Derived.Laws.Rows
import Derived.Deep.MidRow
import Derived.Outline
import Derived.WalkSmall
namespace Go.Proofs.Ytpfmcobphaajlaa
open Go.RowKit
set_option linter.unusedVariables false

/-- The cells of a matrix. -/
def Mx (w : World) (g : Nat) (M : Nat → BitVec 32) : Prop := ∀ i, i < 32 → w.cell? ⟨g, i, none⟩ = some (.int .u32 ((M i).toNat : Int))

set_option maxHeartbeats 1000000 in
theorem of_any (g : Nat) (M : Nat → BitVec 32) (r : BitVec 32) (w : World) (h : Mx w g M) :
    Calls Try.prog 18 #[.pointer (some ⟨g, 0, none⟩), .int .u32 (r.toNat : Int)] w fun e w' => e = .returned (.int .u32 ((mul M r 32).toNat : Int)) ∧ ∃ n, w' = w.drewN n := by
  have g0 : (0 : Int) ≤ (r.toNat : Int) := by omega
  have g1 : (r.toNat : Int) < 4294967296 := by have := r.isLt; omega
  generalize hrv : (r.toNat : Int) = rv at g0 g1 ⊢
  have HR := hidden hrv
  clear hrv
  go_enter Try.func18, Try.ntmps18
  go_wp2
  go_loopw [4, 8] (fun o i wr => ∃ k : Nat, k ≤ 32 ∧ i = .int .i64 k ∧ o = .int .u32 ((mul M r k).toNat : Int) ∧ ∃ n, wr = w.drewN n) (fun _ i _ => 32 - (intOf i).toNat)
  case atStart => exact ⟨0, Nat.zero_le _, rfl, rfl, 0, rfl⟩
  case round =>
    obtain ⟨k, hk, rfl, rfl, n, rfl⟩ := hrel
    by_cases hlt : k < 32
    · have hc := h k hlt
      have hbt := bit_test r k
      rw [HR.out] at hbt
      by_cases hbk : r.getLsbD k = true
      · rw [hbk] at hbt
        go_wp2
        go_quiet (fail)
        go_wp2
        go_roundw
        case rel => exact ⟨k + 1, by omega, by go_num, by rw [bits_xor_bv, mul, if_pos hbk], _, rfl⟩
        case measure => simp [intOf]; omega
      · rw [Bool.not_eq_true] at hbk
        rw [hbk] at hbt
        go_wp2
        go_quiet (fail)
        go_wp2
        go_roundw
        case rel => exact ⟨k + 1, by omega, by go_num, by rw [mul, if_neg (by rw [hbk]; decide)], _, rfl⟩
        case measure => simp [intOf]; omega
    · obtain rfl : k = 32 := by omega
      go_wp2
      go_ret
      exact ⟨rfl, _, rfl⟩

theorem Mx.of_block {w : World} {g : Nat} {C : Array Value} {t : TypeId} {fr : Nat × Nat} {M : Nat → BitVec 32} (h : w.heap[g]? = some (.cells C t fr)) (hC : ∀ i, i < 32 → C[i]? = some (.int .u32 ((M i).toNat : Int))) : Mx w g M :=
  fun i hi => by rw [cell_of_row w g i C t fr h]; exact hC i hi

theorem setCells_row (g e : Nat) : ∀ (vs : List Value) (o : Nat) (w : World) (cur : Array Value), w.heap[g]? = some (.cells cur e (0, 0)) → o + vs.length ≤ cur.size →
    ∃ cur', (w.setCells g o vs).heap[g]? = some (.cells cur' e (0, 0)) ∧ cur'.size = cur.size ∧ ∀ j, cur'[j]? = if o ≤ j ∧ j < o + vs.length then vs[j - o]? else cur[j]?
  | [], o, w, cur, h, _ => ⟨cur, h, rfl, fun j => by rw [if_neg (by simp)]⟩
  | v :: vs, o, w, cur, h, hs => by
    simp only [List.length_cons] at hs
    obtain ⟨cur', h1, h2, h3⟩ := setCells_row g e vs (o + 1) (w.setCell ⟨g, o, none⟩ v) _ (heap_setCell_same w g o cur e v h) (by simp; omega)
    refine ⟨cur', h1, by simpa using h2, fun j => ?_⟩
    rw [h3, Array.getElem?_setIfInBounds, List.length_cons]
    by_cases e1 : o = j
    · subst e1
      rw [if_neg (by omega), if_pos rfl, if_pos (by omega), if_pos (by omega)]
      simp
    · rw [if_neg e1]
      by_cases e2 : o + 1 ≤ j ∧ j < o + 1 + vs.length
      · rw [if_pos e2, if_pos (by omega), show j - o = (j - (o + 1)) + 1 by omega]; rfl
      · rw [if_neg e2, if_neg (by omega)]
theorem below_setCells {B : Nat} {a : World} (g : Nat) (hg : B ≤ g) : ∀ (vs : List Value) (o : Nat) (w : World), Below B a w → Below B a (w.setCells g o vs)
  | [], _, _, h => h
  | v :: vs, o, w, h => below_setCells g hg vs (o + 1) _ (h.setCell hg v)
/-- A whole row stored over itself or another. -/
theorem setCells_whole (g e : Nat) (cs cur : Array Value) (w : World) (h : w.heap[g]? = some (.cells cur e (0, 0))) (hs : cs.size = cur.size) : (w.setCells g 0 cs.toList).heap[g]? = some (.cells cs e (0, 0)) := by
  obtain ⟨cur', h1, h2, h3⟩ := setCells_row g e cs.toList 0 w cur h (by simp; omega)
  rw [h1]
  have : cur' = cs := by
    apply Array.ext_getElem?
    intro j
    rw [h3, Nat.sub_zero]
    by_cases hj : j < cs.size
    · rw [if_pos (by simp; omega)]; simp
    · rw [if_neg (by simp; omega), Array.getElem?_eq_none (by omega), Array.getElem?_eq_none (by omega)]
  rw [this]
theorem there_row {w : World} {g e : Nat} {cur : Array Value} (h : w.heap[g]? = some (.cells cur e (0, 0))) (n : Nat) (hn : n ≤ cur.size) : w.there g 0 n := fun j hj => by
  rw [Nat.zero_add, cell_of_row w g j cur e (0, 0) h, frozen_of_row w g j cur e h]
  simp; omega

theorem oneCells {C : Array Value} {M : Nat → BitVec 32} (hC : C.size = 32) (h : ∀ j, j < 32 → C[j]? = some (.int .u32 ((M j).toNat : Int))) : C.all (·.oneCell') = true := by
  rw [Array.all_eq_true_iff_forall_mem]
  intro v hv
  obtain ⟨j, hj, rfl⟩ := Array.mem_iff_getElem.1 hv
  have := h j (by omega)
  rw [Array.getElem?_eq_getElem hj] at this
  rw [Option.some.inj this]; rfl
/-- A matrix as a value. -/
def mxv (M : Nat → BitVec 32) : Array Value := ((List.range 32).map fun i => Value.int .u32 ((M i).toNat : Int)).toArray
theorem mxv_size (M : Nat → BitVec 32) : (mxv M).size = 32 := by simp [mxv]
theorem mxv_at (M : Nat → BitVec 32) (j : Nat) (h : j < 32) : (mxv M)[j]? = some (.int .u32 ((M j).toNat : Int)) := by simp [mxv, h]
theorem mxv_eq {C : Array Value} {M : Nat → BitVec 32} (hC : C.size = 32) (h : ∀ j, j < 32 → C[j]? = some (.int .u32 ((M j).toNat : Int))) : C = mxv M := by
  apply Array.ext_getElem?
  intro j
  by_cases hj : j < 32
  · rw [h j hj, mxv_at M j hj]
  · rw [Array.getElem?_eq_none (by omega), Array.getElem?_eq_none (by rw [mxv_size]; omega)]

set_option maxHeartbeats 1000000 in
theorem twice_any (g : Nat) (M : Nat → BitVec 32) (w : World) (h : Mx w g M) :
    Calls Try.prog 19 #[.pointer (some ⟨g, 0, none⟩)] w fun e w' => e = .returned (.agg (mxv fun i => mul M (M i) 32)) ∧ Below w.heap.size w w' := by
  go_enter Try.func19, Try.ntmps19
  go_wp2
  go_loopw [6] (fun i wr => ∃ (k : Nat) (C : Array Value), k ≤ 32 ∧ i = .int .i64 k ∧ wr.heap[w.heap.size]? = some (.cells C 39 (0, 0)) ∧ C.size = 32 ∧ (∀ j, j < k → C[j]? = some (.int .u32 ((mul M (M j) 32).toNat : Int))) ∧ Below w.heap.size w wr) (fun i _ => 32 - (intOf i).toNat)
  case atStart => exact ⟨0, _, Nat.zero_le _, rfl, heap_alloc_new w _, rfl, fun j hj => by omega, (Below.refl _ _).alloc (Nat.le_refl _) _⟩
  case round =>
    obtain ⟨k, C, hk, rfl, hB, hC, hdone, hbel⟩ := hrel
    have hM : Mx wr g M := fun i hi => (hbel.cell (p := ⟨g, i, none⟩) (World.block_lt_of_cell? w _ (h i hi))).trans (h i hi)
    by_cases hlt : k < 32
    · have hc := hM k hlt
      have hcw := cell_of_row wr w.heap.size k C 39 (0, 0) hB
      rw [Array.getElem?_eq_getElem (by omega)] at hcw
      have hfw := frozen_of_row wr w.heap.size k C 39 hB
      have hof := fun nq => of_any g M (M k) (wr.drewN nq) hM
      have HB := hidden hB
      clear hB h hM
      go_wp2
      go_quiet (fail)
      go_wp2_with (go_at_call 18; refine (hof _).mono ?_; rintro e w' ⟨rfl, n2, rfl⟩)
      go_roundw
      case rel =>
        refine ⟨k + 1, C.setIfInBounds k (.int .u32 ((mul M (M k) 32).toNat : Int)), by omega, by go_num, heap_setCell_same _ _ _ _ _ _ HB.out, by simp [hC], fun j hj => ?_, (below_drewN hbel _).setCell (Nat.le_refl _) _⟩
        rw [Array.getElem?_setIfInBounds]
        by_cases e : k = j
        · subst e; simp [hC, hlt]
        · rw [if_neg e]; exact hdone j (by omega)
      case measure => simp [intOf]; omega
    · obtain rfl : k = 32 := by omega
      obtain rfl : C = mxv fun i => mul M (M i) 32 := mxv_eq hC hdone
      have hst := setCells_whole w.heap.size 39 _ _ wr hB rfl
      have hbl := below_setCells w.heap.size (Nat.le_refl _) (mxv fun i => mul M (M i) 32).toList 0 wr hbel
      have hone := oneCells (mxv_size _) (fun j hj => mxv_at (fun i => mul M (M i) 32) j hj)
      clear hdone h hM
      generalize hCe : (mxv fun i => mul M (M i) 32) = C at hB hC hst hbl hone
      have HCe := hidden hCe
      clear hCe
      go_wp2_with (first
        | (refine wpList_load_row rfl 39 (.tmp 2) rfl w.heap.size rfl 39 C (0, 0) _ hB Try.underlying39 rfl (by rw [hC]; kernel_rfl) ?_)
        | (refine wpList_store_mid rfl 39 (.tmp 2) (.tmp 18) rfl w.heap.size 0 C rfl rfl (there_row hB _ (Nat.le_refl _)) (by rw [hC]; kernel_rfl) hone ?_))
      exact bodyPost_ret (results_cell_row Try.results19 _ _ w.heap.size 39 C (0, 0) _ rfl hst Try.underlying39 rfl (by rw [hC]; kernel_rfl)) rfl ⟨by rw [HCe.out], hbl⟩

theorem shl_one (k : Nat) (h : k < 32) : (2 : Int) ^ k % 4294967296 = ((1#32 <<< k).toNat : Int) := by
  have hp : 2 ^ k < 4294967296 := Nat.pow_lt_pow_right (by decide) (show k < 32 by omega)
  rw [BitVec.toNat_shiftLeft, Nat.shiftLeft_eq]
  simp

theorem odd_test (m : Nat) (h : m ≤ 1048576) : bits .and .i64 (m : Int) 1 = ((m % 2 : Nat) : Int) := by
  have := bits_mask .i64 62 (by decide) (fun n a b => by rw [IntKind.wrap_i64]; omega) 1 (by decide) (m : Int) (by omega) (by omega)
  simpa using this
theorem sts_bits_odd (n j : Nat) (a : BitVec 32) (h : n / 2 ^ j % 2 = 1) : sts (8 * 2 ^ j) (sts (8 * (n % 2 ^ j)) a) = sts (8 * (n % 2 ^ (j + 1))) a := by
  rw [← sts_add, Nat.mod_pow_succ, h, Nat.mul_one, Nat.mul_add]
theorem sts_bits_even (n j : Nat) (a : BitVec 32) (h : n / 2 ^ j % 2 = 0) : sts (8 * (n % 2 ^ j)) a = sts (8 * (n % 2 ^ (j + 1))) a := by
  rw [Nat.mod_pow_succ, h, Nat.mul_zero, Nat.add_zero]
theorem mat_next (j : Nat) : (mxv fun i => mul (mat (8 * 2 ^ j)) (mat (8 * 2 ^ j) i) 32) = mxv (mat (8 * 2 ^ (j + 1))) := by
  congr 1
  funext i
  rw [mat_twice, Nat.pow_succ]
  congr 1
  omega

set_option maxHeartbeats 2000000 in
theorem join_any (a b : BitVec 32) (n : Nat) (hn : n ≤ 1048576) (w : World) :
    Calls Try.prog 15 #[.int .u32 (a.toNat : Int), .int .u32 (b.toNat : Int), .int .i64 n] w fun e w' => e = .returned (.tuple #[.int .u32 ((sts (8 * n) a ^^^ b).toNat : Int), .int .i64 0]) ∧ Below w.heap.size w w' := by
  generalize hav : (a.toNat : Int) = av
  generalize hbv : (b.toNat : Int) = bv
  have HA := hidden hav
  have HB := hidden hbv
  clear hav hbv
  go_enter Try.func15, Try.ntmps15
  go_wp2
  go_loopw [16] (fun i wr => ∃ (k : Nat) (C : Array Value), k ≤ 32 ∧ i = .int .i64 k ∧ wr.heap[w.heap.size]? = some (.cells C 39 (0, 0)) ∧ C.size = 32 ∧ (∀ j, j < k → C[j]? = some (.int .u32 ((mat 8 j).toNat : Int))) ∧ Below w.heap.size w wr) (fun i _ => 32 - (intOf i).toNat)
  case atStart => exact ⟨0, _, Nat.zero_le _, rfl, heap_alloc_new w _, rfl, fun j hj => by omega, (Below.refl _ _).alloc (Nat.le_refl _) _⟩
  case round =>
    obtain ⟨k, C, hk, rfl, hB, hC, hdone, hbel⟩ := hrel
    by_cases hlt : k < 32
    · have hcw := cell_of_row wr w.heap.size k C 39 (0, 0) hB
      rw [Array.getElem?_eq_getElem (by omega)] at hcw
      have hfw := frozen_of_row wr w.heap.size k C 39 hB
      have HB2 := hidden hB
      clear hB
      go_wp2_with (go_at_call 16; refine (steps_any 8 _ _ (by omega)).mono ?_; rintro e w' ⟨rfl, rfl⟩)
      rw [shl_one k hlt, stepsI_bv]
      go_roundw
      case rel =>
        refine ⟨k + 1, C.setIfInBounds k (.int .u32 ((mat 8 k).toNat : Int)), by omega, by go_num, heap_setCell_same _ _ _ _ _ _ HB2.out, by simp [hC], fun j hj => ?_, hbel.setCell (Nat.le_refl _) _⟩
        rw [Array.getElem?_setIfInBounds]
        by_cases e : k = j
        · subst e; simp [hC, hlt]
        · rw [if_neg e]; exact hdone j (by omega)
      case measure => simp [intOf]; omega
    · have hk32 : ¬ ((k : Int) < 32) := by omega
      obtain rfl : C = mxv (mat 8) := mxv_eq hC (fun j hj => hdone j (by omega))
      clear hdone hC hk hlt
      go_wp2
      clear hk32
      go_loopw [0, 2] (fun x y wq => ∃ j m : Nat, m = n / 2 ^ j ∧ y = .int .i64 m ∧ x = .int .u32 ((sts (8 * (n % 2 ^ j)) a).toNat : Int) ∧ wq.heap[w.heap.size]? = some (.cells (mxv (mat (8 * 2 ^ j))) 39 (0, 0)) ∧ Below w.heap.size w wq) (fun _ y _ => (intOf y).toNat)
      case atStart => exact ⟨0, n, by simp, rfl, by rw [Nat.pow_zero, Nat.mod_one, Nat.mul_zero, ← HA.out]; rfl, hB, hbel⟩
      case round =>
        obtain ⟨j, m, hm, rfl, rfl, hB2, hbel2⟩ := hrel
        have hmn : m ≤ 1048576 := by rw [hm]; exact Nat.le_trans (Nat.div_le_self _ _) hn
        have Hm := hidden hm
        clear hm
        by_cases hpos : 0 < m
        · have hM : Mx _ w.heap.size (mat (8 * 2 ^ j)) := Mx.of_block hB2 (mxv_at _)
          have hot := odd_test m hmn
          by_cases hodd : m % 2 = 1
          · have ht : (bits .and .i64 (m : Int) 1 == 1) = true := by rw [hot, hodd]; rfl
            clear hot
            have HO := hidden hodd
            have HM2 := hidden hB2
            clear hodd hB2 hB
            have hT := fun nq => twice_any w.heap.size (mat (8 * 2 ^ j)) (wr.drewN nq) hM
            rw [mat_next] at hT
            have hO := of_any w.heap.size (mat (8 * 2 ^ j)) (sts (8 * (n % 2 ^ j)) a) wr hM
            rw [mul_mat_all, sts_bits_odd n j a (by rw [← Hm.out]; exact HO.out)] at hO
            have hone := oneCells (mxv_size _) (fun i hi => mxv_at (mat (8 * 2 ^ (j + 1))) i hi)
            have hC2 := mxv_size (mat (8 * 2 ^ (j + 1)))
            generalize hC2e : (mxv (mat (8 * 2 ^ (j + 1)))) = C2 at hT hone hC2
            have HC2e := hidden hC2e
            have hltB : w.heap.size < wr.heap.size := (Array.getElem?_eq_some_iff.1 HM2.out).1
            clear hM hC2e
            go_wp2_with (first
              | (go_at_call 18; refine hO.mono ?_; rintro e w' ⟨rfl, n2, rfl⟩)
              | (go_at_call 19; refine (hT _).mono ?_; rintro e w' ⟨rfl, hbel3⟩; have hB3 := (hbel3.block _ hltB).trans HM2.out; have HB3 := hidden hB3; clear hB3)
              | (refine wpList_store_mid rfl 39 (.tmp 8) (.tmp 35) rfl w.heap.size 0 C2 rfl rfl (there_row HB3.out _ (by rw [hC2, mxv_size]; exact Nat.le_refl _)) (by rw [hC2]; kernel_rfl) hone ?_))
            go_roundw
            case rel =>
              refine ⟨j + 1, m / 2, by rw [Hm.out, Nat.div_div_eq_div_mul, Nat.pow_succ], by go_num, rfl, ?_, ?_⟩
              · rw [HC2e.out]; exact setCells_whole w.heap.size 39 C2 _ _ HB3.out (by rw [hC2, mxv_size])
              · exact below_setCells w.heap.size (Nat.le_refl _) _ 0 _ ((below_drewN hbel2 n2).trans (hbel3.mono hbel2.size))
            case measure => simp [intOf]; omega
          · have _hd := hodd
            have ht : (bits .and .i64 (m : Int) 1 == 1) = false := by rw [hot, show m % 2 = 0 by omega]; rfl
            clear hot
            have HO := hidden (show m % 2 = 0 by omega)
            have HM2 := hidden hB2
            clear _hd hodd hB2 hB
            have hT := twice_any w.heap.size (mat (8 * 2 ^ j)) wr hM
            rw [mat_next] at hT
            have hone := oneCells (mxv_size _) (fun i hi => mxv_at (mat (8 * 2 ^ (j + 1))) i hi)
            have hC2 := mxv_size (mat (8 * 2 ^ (j + 1)))
            generalize hC2e : (mxv (mat (8 * 2 ^ (j + 1)))) = C2 at hT hone hC2
            have HC2e := hidden hC2e
            have hltB : w.heap.size < wr.heap.size := (Array.getElem?_eq_some_iff.1 HM2.out).1
            clear hM hC2e
            go_wp2_with (first
              | (go_at_call 19; refine hT.mono ?_; rintro e w' ⟨rfl, hbel3⟩; have hB3 := (hbel3.block _ hltB).trans HM2.out; have HB3 := hidden hB3; clear hB3)
              | (refine wpList_store_mid rfl 39 (.tmp 8) (.tmp 35) rfl w.heap.size 0 C2 rfl rfl (there_row HB3.out _ (by rw [hC2, mxv_size]; exact Nat.le_refl _)) (by rw [hC2]; kernel_rfl) hone ?_))
            go_roundw
            case rel =>
              refine ⟨j + 1, m / 2, by rw [Hm.out, Nat.div_div_eq_div_mul, Nat.pow_succ], by go_num, by rw [sts_bits_even n j a (by rw [← Hm.out]; exact HO.out)], ?_, ?_⟩
              · rw [HC2e.out]; exact setCells_whole w.heap.size 39 C2 _ _ HB3.out (by rw [hC2, mxv_size])
              · exact below_setCells w.heap.size (Nat.le_refl _) _ 0 _ (hbel2.trans (hbel3.mono hbel2.size))
            case measure => simp [intOf]; omega
        · go_wp2
          have hm0 : m = 0 := by omega
          refine bodyPost_ret (v := .tuple #[.int .u32 (bits .xor .u32 ((sts (8 * (n % 2 ^ j)) a).toNat : Int) bv), .int .i64 0]) (by simp [results, Try.results15, go_sem]) rfl ⟨?_, hbel2⟩
          rw [← HB.out, bits_xor_bv, Nat.mod_eq_of_lt]
          have := Hm.out
          rw [hm0] at this
          exact (Nat.div_eq_zero_iff.1 this.symm).resolve_left (by have := Nat.two_pow_pos j; omega)

end Go.Proofs.Ytpfmcobphaajlaa
