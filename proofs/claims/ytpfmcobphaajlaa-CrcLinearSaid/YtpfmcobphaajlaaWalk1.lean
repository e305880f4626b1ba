/-
  The walks of the sum and of the document's sum, each function once.
-/
import Derived.Test.YtpfmcobphaajlaaRows
import Derived.Test.YtpfmcobphaajlaaMath
import Derived.WalkKit
import Derived.WalkSpells
import Derived.WalkLawsBesides
import Derived.Outline
import Derived.Lib.SlBytesConst
namespace Go.Proofs.Ytpfmcobphaajlaa
open Go.RowKit

theorem hidden {p : Prop} (h : p) : Hid p := h
theorem ret_int {k : IntKind} {a b : Int} (h : a = b) : Ending.returned (.int k a) = .returned (.int k b) := by rw [h]

set_option maxHeartbeats 400000 in
theorem refStep_any (x : Int) (w : World) :
    Calls Try.prog 17 #[.int .u32 x] w fun e w' => e = .returned (.int .u32 (refStepI x)) ∧ w = w' := by
  unfold refStepI
  by_cases h : bits .and .u32 x 1 = 1
  · rw [if_pos h]
    have h' : (bits .and .u32 x 1 == 1) = true := by simpa using h
    clear h
    go_enter Try.func17, Try.ntmps17
    go_wp2
    go_ret
    exact ⟨rfl, rfl⟩
  · rw [if_neg h]
    have h' : (bits .and .u32 x 1 == 1) = false := by simpa using h
    clear h
    go_enter Try.func17, Try.ntmps17
    go_wp2
    go_ret
    exact ⟨rfl, rfl⟩

set_option maxHeartbeats 400000 in
theorem steps_any (n : Nat) (x : Int) (w : World) (hn : n < 1000000) :
    Calls Try.prog 16 #[.int .u32 x, .int .i64 n] w fun e w' => e = .returned (.int .u32 (stepsI n x)) ∧ w = w' := by
  go_enter Try.func16, Try.ntmps16
  go_wp2
  go_loop [0, 6] (fun r i => ∃ k : Nat, k ≤ n ∧ i = .int .i64 k ∧ r = .int .u32 (stepsI k x)) (fun _ i => n - (intOf i).toNat)
  case atStart => exact ⟨0, Nat.zero_le _, rfl, rfl⟩
  case round =>
    obtain ⟨k, hk, rfl, rfl⟩ := hrel
    go_wp2
    · go_round
      case rel => exact ⟨k + 1, by omega, by go_num, by rw [stepsI_snoc]; rfl⟩
      case measure => simp [intOf]; omega
    · go_ret
      exact ⟨ret_int (by rw [show k = n by omega]), rfl⟩

/-- A slice's elements, as bytes at their cells. -/
def Rd (w : World) (a : Option Addr) (xs : List Int) : Prop :=
  xs = [] ∨ ∃ b off, a = some ⟨b, off, none⟩ ∧ ∀ i, i < xs.length → w.cell? ⟨b, off + i, none⟩ = some (.int .u8 (xs.getD i 0))

theorem take_succ_run (r : BitVec 32) (xs : List Int) (k : Nat) (h : k < xs.length) :
    run r (xs.take (k + 1)) = upd (run r (xs.take k)) (xs[k]?.getD 0) := by
  unfold run
  rw [List.take_succ_eq_append_getElem h, List.foldl_append]
  simp [List.getElem?_eq_getElem h]

theorem notI_bv (r : BitVec 32) : bits .xor .u32 IntKind.u32.max (r.toNat : Int) = ((~~~r).toNat : Int) := by
  have h : IntKind.u32.max = 4294967295 := by decide
  rw [h, compl_bv]

theorem upd_int (r : BitVec 32) (x : Int) : stepsI 8 (bits .xor .u32 (r.toNat : Int) x) = ((upd r x).toNat : Int) := by
  rw [bits_xor_int, stepsI_bv]; rfl

set_option maxHeartbeats 400000 in
theorem more_any (s : BitVec 32) (a : Option Addr) (xs : List Int) (cap : Nat) (w : World) (hr : Rd w a xs) (hl : xs.length ≤ 9223372036854775807) (hb : ∀ x ∈ xs, 0 ≤ x ∧ x ≤ 255) :
    Calls Try.prog 13 #[.int .u32 (s.toNat : Int), .slice a xs.length cap] w fun e w' => e = .returned (.int .u32 ((more s xs).toNat : Int)) ∧ w = w' := by
  generalize hv : (s.toNat : Int) = sv
  have HV := hidden hv; clear hv
  go_enter Try.func13, Try.ntmps13
  go_wp2
  go_loop [5, 12] (fun r i => ∃ k : Nat, k ≤ xs.length ∧ i = .int .i64 k ∧ r = .int .u32 ((run (~~~s) (xs.take k)).toNat : Int)) (fun _ i => xs.length - (intOf i).toNat)
  case atStart => exact ⟨0, Nat.zero_le _, rfl, by rw [← HV.out, notI_bv]; rfl⟩
  case round =>
    obtain ⟨k, hk, rfl, rfl⟩ := hrel
    by_cases hlt : k < xs.length
    · rcases hr with rfl | ⟨b, off, rfl, hc⟩
      · simp at hlt
      · have hcell := hc k hlt
        clear hc
        go_wp2_with (go_at_call 16; refine (steps_any 8 _ _ (by omega)).mono ?_; rintro e w' ⟨rfl, rfl⟩)
        go_round
        case rel =>
          have hx := hb xs[k] (List.getElem_mem hlt)
          exact ⟨k + 1, by omega, by go_num, by rw [Int.emod_eq_of_lt (by omega) (by omega), upd_int, take_succ_run _ _ _ hlt, List.getElem?_eq_getElem hlt]; rfl⟩
        case measure => simp [intOf]; omega
    · go_wp2
      go_ret
      exact ⟨ret_int (by rw [show k = xs.length by omega, List.take_length, notI_bv]; rfl), rfl⟩

set_option maxHeartbeats 1000000 in
theorem refMore_any (s : BitVec 32) (a : Option Addr) (xs : List Int) (cap : Nat) (w : World) (hr : Rd w a xs) (hl : xs.length ≤ 9223372036854775807) (hb : ∀ x ∈ xs, 0 ≤ x ∧ x ≤ 255) :
    Calls Try.prog 14 #[.int .u32 (s.toNat : Int), .slice a xs.length cap] w fun e w' => e = .returned (.int .u32 ((more s xs).toNat : Int)) ∧ w = w' := by
  generalize hv : (s.toNat : Int) = sv
  have HV := hidden hv; clear hv
  go_enter Try.func14, Try.ntmps14
  go_wp2
  go_loop [5, 6] (fun r i => ∃ k : Nat, k ≤ xs.length ∧ i = .int .i64 k ∧ r = .int .u32 ((run (~~~s) (xs.take k)).toNat : Int)) (fun _ i => xs.length - (intOf i).toNat)
  case atStart => exact ⟨0, Nat.zero_le _, rfl, by rw [← HV.out, notI_bv]; rfl⟩
  case round =>
    obtain ⟨k, hk, rfl, rfl⟩ := hrel
    by_cases hlt : k < xs.length
    · rcases hr with rfl | ⟨b, off, rfl, hc⟩
      · simp at hlt
      · have hcell := hc k hlt
        have hx := hb xs[k] (List.getElem_mem hlt)
        clear hc
        go_wp2
        go_loop [5, 7] (fun r j => ∃ m : Nat, m ≤ 8 ∧ j = .int .i64 m ∧ r = .int .u32 ((sts m (run (~~~s) (xs.take k) ^^^ BitVec.ofInt 32 xs[k])).toNat : Int)) (fun _ j => 8 - (intOf j).toNat)
        case atStart => exact ⟨0, Nat.zero_le _, rfl, by rw [bits_xor_int]; rfl⟩
        case round =>
          obtain ⟨m, hm, rfl, rfl⟩ := hrel
          by_cases hm8 : m < 8
          · go_wp2_with (go_at_call 17; refine (refStep_any _ _).mono ?_; rintro e w' ⟨rfl, rfl⟩)
            go_round
            case rel => exact ⟨m + 1, by omega, by go_num, by rw [refStepI_bv, sts_snoc]⟩
            case measure => simp [intOf]; omega
          · go_wp2
            go_round
            case rel => exact ⟨k + 1, by omega, by go_num, by rw [show m = 8 by omega, take_succ_run _ _ _ hlt, List.getElem?_eq_getElem hlt]; rfl⟩
            case measure => simp [intOf]; omega
    · go_wp2
      go_ret
      exact ⟨ret_int (by rw [show k = xs.length by omega, List.take_length, notI_bv]; rfl), rfl⟩

set_option maxHeartbeats 400000 in
theorem sum_any (a : Option Addr) (xs : List Int) (cap : Nat) (w : World) (hr : Rd w a xs) (hl : xs.length ≤ 9223372036854775807) (hb : ∀ x ∈ xs, 0 ≤ x ∧ x ≤ 255) :
    Calls Try.prog 10 #[.slice a xs.length cap] w fun e w' => e = .returned (.int .u32 ((more 0#32 xs).toNat : Int)) ∧ w = w' := by
  go_enter Try.func10, Try.ntmps10
  go_wp2_with (go_at_call 13; refine (more_any 0#32 a xs cap w hr hl hb).mono ?_; rintro e w' ⟨rfl, rfl⟩)
  go_ret
  exact ⟨rfl, rfl⟩

set_option maxHeartbeats 400000 in
theorem refSum_any (a : Option Addr) (xs : List Int) (cap : Nat) (w : World) (hr : Rd w a xs) (hl : xs.length ≤ 9223372036854775807) (hb : ∀ x ∈ xs, 0 ≤ x ∧ x ≤ 255) :
    Calls Try.prog 11 #[.slice a xs.length cap] w fun e w' => e = .returned (.int .u32 ((more 0#32 xs).toNat : Int)) ∧ w = w' := by
  go_enter Try.func11, Try.ntmps11
  go_wp2_with (go_at_call 14; refine (refMore_any 0#32 a xs cap w hr hl hb).mono ?_; rintro e w' ⟨rfl, rfl⟩)
  go_ret
  exact ⟨rfl, rfl⟩

theorem sum_example : ((more 0#32 [49, 50, 51, 52, 53, 54, 55, 56, 57]).toNat : Int) = 3421780262 := by decide +kernel
theorem sum_empty : ((more 0#32 []).toNat : Int) = 0 := by decide +kernel
theorem rd_example (w : World) : Rd (w.alloc (.cells #[.int .u8 49, .int .u8 50, .int .u8 51, .int .u8 52, .int .u8 53, .int .u8 54, .int .u8 55, .int .u8 56, .int .u8 57] 5 (9, 10))) (some ⟨w.heap.size, 0, none⟩) [49, 50, 51, 52, 53, 54, 55, 56, 57] := by
  refine .inr ⟨_, _, rfl, fun i hi => ?_⟩
  simp at hi
  rw [World.cell?_alloc_mark]
  rcases i with _ | _ | _ | _ | _ | _ | _ | _ | _ | i <;> first | rfl | omega

set_option maxHeartbeats 400000 in
theorem alive_any (w : World) :
    Calls Try.prog 12 #[] w fun e w' => e = .returned (.bool true) ∧ Below w.heap.size w w' := by
  have kc := fun (w : World) (C : Array Value) (n c : Nat) => Lib.run_convert_bytes_const (P := Try.prog) w 22 5 C n c Try.underlying22 Try.underlying5
  have e1 := sum_example
  have e2 := sum_empty
  go_enter Try.func12, Try.ntmps12
  go_wp2_with fail
  go_at_call 10
  refine (sum_any _ [49, 50, 51, 52, 53, 54, 55, 56, 57] 9 _ (rd_example w) (by decide) (by decide)).mono ?_
  rintro e w' ⟨rfl, rfl⟩
  rw [e1]
  go_wp2_with fail
  go_at_call 10
  refine (sum_any none [] 0 _ (.inl rfl) (by decide) (by decide)).mono ?_
  rintro e w' ⟨rfl, rfl⟩
  rw [e2]
  go_wp2_with fail
  go_ret
  exact ⟨rfl, (Below.refl _ _).alloc (Nat.le_refl _) _⟩

/-- What a slice of bytes that came in is: its elements. -/
theorem rd_of (w : World) (a : Option Addr) (len cap : Nat) (zs : List Int)
    (h : (a = none ∧ len = 0 ∧ cap = 0 ∧ zs = []) ∨
      ∃ x, a = some x ∧ len ≤ cap ∧ cap ≤ maxLen ∧ zs.length = cap ∧ (∀ i, i < zs.length → w.cell? (x.add i) = some (.int .u8 (zs.getD i 0))) ∧ ∀ n ∈ zs, (Lit.int .u8 n).wf = true) :
    ∃ xs : List Int, xs.length = len ∧ Rd w a xs ∧ (∀ x ∈ xs, 0 ≤ x ∧ x ≤ 255) ∧ len ≤ 9223372036854775807 := by
  rcases h with ⟨rfl, rfl, rfl, rfl⟩ | ⟨x, rfl, hl, hm, hz, hcell, hwz⟩
  · exact ⟨[], rfl, .inl rfl, by simp, by omega⟩
  · refine ⟨zs.take len, by simp; omega, ?_, ?_, ?_⟩
    · by_cases h0 : len = 0
      · subst h0; exact .inl rfl
      · obtain ⟨b, off, spot⟩ := x
        have hc := hcell 0 (by omega)
        have hspot : spot = none := by simpa [Addr.add] using World.cell?_spot hc
        subst hspot
        refine .inr ⟨b, off, rfl, fun i hi => ?_⟩
        simp at hi
        have := hcell i (by omega)
        rw [show Addr.add ⟨b, off, none⟩ i = ⟨b, off + i, none⟩ by unfold Addr.add; split <;> simp_all] at this
        rw [List.getD_eq_getElem?_getD, List.getElem?_take, if_pos (by omega), ← List.getD_eq_getElem?_getD]
        exact this
    · intro x hx
      have := hwz x (List.mem_of_mem_take hx)
      simp [Lit.wf, IntKind.min, IntKind.max, IntKind.signed, IntKind.bits] at this
      omega
    · unfold maxLen at hm; omega

/-- A number of 32 bits is a register. -/
theorem reg_of (x : Int) (h : (Lit.int .u32 x).wf = true) : ∃ r : BitVec 32, x = (r.toNat : Int) := by
  simp [Lit.wf, IntKind.min, IntKind.max, IntKind.signed, IntKind.bits] at h
  refine ⟨BitVec.ofNat 32 x.toNat, ?_⟩
  rw [BitVec.toNat_ofNat]
  omega

end Go.Proofs.Ytpfmcobphaajlaa
