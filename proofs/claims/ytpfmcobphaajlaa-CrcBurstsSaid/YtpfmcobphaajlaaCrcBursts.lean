/- Bits that are turned within 32 places are seen, and the chapter's example holds: the law CrcBursts answers true at every slice of bytes, place and burst, with no condition beside the row's own. -/
import Derived.Test.YtpfmcobphaajlaaRows
import Derived.Test.YtpfmcobphaajlaaClone
import Derived.Test.YtpfmcobphaajlaaMath2
import Derived.Outline
import Derived.WalkKit
import Derived.ProofKit
import Derived.OpenShut
import Derived.ShutString
import Derived.ChangeOld
import Derived.Below
namespace Go.Proofs.Ytpfmcobphaajlaa.crcBursts
open Go.ChangeShapes Go.WideShapes Go.ChangeAt Go.RowKit
open Go.ChangeMaps (open_string shut_string)
set_option linter.unusedVariables false

theorem own : ownKnob Try.prog.godebug = none := by kernel_rfl
theorem laidOut : laidOutB Try.prog = true := by kernel_rfl

/-- WHAT THE WALK IS TOLD OF A SLICE OF INTEGERS THAT CAME IN: it is nil; or it leads to a row of 'cap' cells, the numbers 'zs' (the first 'len' are its elements, the rest its spare room), each fitting its kind. -/
def IsRow (k : IntKind) (w : World) (a : Option Addr) (len cap : Nat) (zs : List Int) : Prop :=
  (a = none ∧ len = 0 ∧ cap = 0 ∧ zs = []) ∨
  ∃ x, a = some x ∧ len ≤ cap ∧ cap ≤ maxLen ∧ zs.length = cap ∧ (∀ i, i < zs.length → w.cell? (x.add i) = some (.int k (zs.getD i 0))) ∧ ∀ n ∈ zs, (Lit.int k n).wf = true

theorem own_slice {W : World} {B n : Nat} {v : Value} {xs : List Value} (h : W.ownsRow B 5 1 v n xs) (hn : 0 < n) : ∃ g cap, v = .slice (some ⟨g, 0, none⟩) n cap ∧ B ≤ g := by
  rcases h.2 with ⟨rfl, h0⟩ | ⟨g, cap, cur, rfl, hg, _⟩
  · omega
  · exact ⟨g, cap, rfl, hg⟩

theorem pow_mod (p : Nat) : (2 : Int) ^ (p % 8) % 256 = ((2 ^ (p % 8) : Nat) : Int) := by
  have h := pow_byte p
  rw [show (2 : Int) ^ (p % 8) = ((2 ^ (p % 8) : Nat) : Int) by simp]
  omega

/-! ### STEP 1: THE WALK: the Go text returns true, AND WRITES NOTHING THAT WAS THERE: 'Below w.heap.size w w'' (Derived/Below.lean: '.refl', '.alloc', '.drew', '.setCell' at a new block, '.trans'). Open each 'IsRow' by 'rcases' AHEAD of 'go_enter'; part every test ahead of the walk. -/
set_option maxHeartbeats 1000000 in
theorem walk (a0 : Option Addr) (len0 cap0 : Nat) (z0 : List Int) (a1 : Int) (a2 : Int) (w : World) (w0 : IsRow .u8 w a0 len0 cap0 z0) (w1 : (Lit.int .i64 a1).wf = true) (w2 : (Lit.int .u32 a2).wf = true) :
    Calls Try.prog 5 #[.slice a0 len0 cap0, .int .i64 a1, .int .u32 a2] w fun e w' => e = .returned (.bool true) ∧ Below w.heap.size w w' := by
  obtain ⟨xs, rfl, hr, hb, hl⟩ := rd_of w a0 len0 cap0 z0 w0
  have hnil : a0 = none → cap0 = 0 := by
    rintro rfl
    rcases w0 with ⟨_, _, h, _⟩ | ⟨x, h, _⟩
    · exact h
    · cases h
  clear w0
  obtain ⟨bu, rfl⟩ := reg_of a2 w2
  clear w2
  have gw : (-9223372036854775808 : Int) ≤ a1 ∧ a1 ≤ 9223372036854775807 := by
    simp [Lit.wf, IntKind.min, IntKind.max, IntKind.signed, IntKind.bits] at w1
    omega
  clear w1
  by_cases h : 2000 < xs.length ∨ a1 < 0 ∨ 8 * (xs.length : Int) < a1 ∨ 8 * (xs.length : Int) - a1 < 32 ∨ (bu.toNat : Int) = 0
  · have g0 : (0 : Int) ≤ (bu.toNat : Int) := by omega
    have g1 : (bu.toNat : Int) < 4294967296 := by have := bu.isLt; omega
    generalize (bu.toNat : Int) = bv at h g0 g1 ⊢
    by_cases h1 : 2000 < xs.length
    · have d1 : decide ((2000 : Int) < (xs.length : Int)) = true := by simp; omega
      clear h
      go_enter Try.func5, Try.ntmps5
      go_wp2_with fail
      refine (alive_any w).mono ?_
      rintro e w' ⟨rfl, hbl⟩
      go_wp2_with fail
      go_ret
      exact ⟨rfl, hbl⟩
    have d1 : decide ((2000 : Int) < (xs.length : Int)) = false := by simp; omega
    have h := h.resolve_left h1
    by_cases h2 : a1 < 0
    · have d2 : decide (a1 < (0 : Int)) = true := by simp; omega
      clear h
      go_enter Try.func5, Try.ntmps5
      go_wp2_with fail
      refine (alive_any w).mono ?_
      rintro e w' ⟨rfl, hbl⟩
      go_wp2_with fail
      go_ret
      exact ⟨rfl, hbl⟩
    have d2 : decide (a1 < (0 : Int)) = false := by simp; omega
    have h := h.resolve_left h2
    by_cases h3 : 8 * (xs.length : Int) < a1
    · have d3 : decide (8 * (xs.length : Int) < a1) = true := by simp; omega
      clear h
      go_enter Try.func5, Try.ntmps5
      go_wp2_with fail
      refine (alive_any w).mono ?_
      rintro e w' ⟨rfl, hbl⟩
      go_wp2_with fail
      go_ret
      exact ⟨rfl, hbl⟩
    have d3 : decide (8 * (xs.length : Int) < a1) = false := by simp; omega
    have h := h.resolve_left h3
    by_cases h4 : 8 * (xs.length : Int) - a1 < 32
    · have d4 : decide (8 * (xs.length : Int) - a1 < (32 : Int)) = true := by simp; omega
      clear h
      go_enter Try.func5, Try.ntmps5
      go_wp2_with fail
      refine (alive_any w).mono ?_
      rintro e w' ⟨rfl, hbl⟩
      go_wp2_with fail
      go_ret
      exact ⟨rfl, hbl⟩
    have d4 : decide (8 * (xs.length : Int) - a1 < (32 : Int)) = false := by simp; omega
    have h := h.resolve_left h4
    have d5 : (bv == (0 : Int)) = true := by simpa using h
    clear h
    go_enter Try.func5, Try.ntmps5
    go_wp2_with fail
    refine (alive_any w).mono ?_
    rintro e w' ⟨rfl, hbl⟩
    go_wp2_with fail
    go_ret
    exact ⟨rfl, hbl⟩
  · obtain ⟨i0, hi, hz0, hz1, hz2⟩ := info_parts info5
    have hn : ¬ 2000 < xs.length := fun e => h (.inl e)
    have h0 : 0 ≤ a1 := by omega
    obtain ⟨p, rfl⟩ := Int.eq_ofNat_of_zero_le h0
    have hp : p + 32 ≤ 8 * xs.length := by omega
    have hbu : bu ≠ 0#32 := by
      rintro rfl
      simp at h
    have d1 : decide ((2000 : Int) < (xs.length : Int)) = false := by simp; omega
    have d2 : decide ((p : Int) < (0 : Int)) = false := by simp
    have d3 : decide (8 * (xs.length : Int) < (p : Int)) = false := by simp; omega
    have d4 : decide (8 * (xs.length : Int) - (p : Int) < (32 : Int)) = false := by simp; omega
    have d5 : ((bu.toNat : Int) == (0 : Int)) = false := by simp; exact fun e => hbu (BitVec.eq_of_toNat_eq (by simpa using e))
    clear h h0 gw
    have g0 : (0 : Int) ≤ (bu.toNat : Int) := by omega
    have g1 : (bu.toNat : Int) < 4294967296 := by have := bu.isLt; omega
    generalize hbv : (bu.toNat : Int) = bv at d5 g0 g1 ⊢
    have HBV := hidden hbv
    clear hbv
    go_enter Try.func5, Try.ntmps5
    go_wp2_with (at_builtin; refine wpList_clone w rfl (.tmp 37) (.tmp 38) rfl rfl a0 xs.length cap0 rfl hnil xs rfl hr (by omega) ?_; intro v1 W1 hown1 hbel1)
    obtain ⟨g, cap1, hv1, hg⟩ := own_slice hown1 (by omega)
    rw [hv1]
    rw [hv1] at hown1
    clear hv1
    go_loopw [8] (fun i wr => ∃ k : Nat, k ≤ 32 ∧ i = .int .i64 k ∧ wr.ownsRow w.heap.size 5 1 (.slice (some ⟨g, 0, none⟩) xs.length cap1) xs.length ((flips xs p bu k).map (Value.int .u8)) ∧ Below w.heap.size w wr) (fun i _ => 32 - (intOf i).toNat)
    case atStart => exact ⟨0, Nat.zero_le _, rfl, hown1, hbel1⟩
    case round =>
      obtain ⟨k, hk, rfl, hown, hbel⟩ := hrel
      by_cases hlt : k < 32
      · have hbt := bit_test bu k
        rw [HBV.out] at hbt
        by_cases hbk : bu.getLsbD k = true
        · rw [hbk] at hbt
          have hq : (p + k) / 8 < xs.length := by omega
          have cw := hown.cellAt ((p + k) / 8) (by omega)
          rw [List.getElem?_map, show (flips xs p bu k)[(p + k) / 8]? = some ((flips xs p bu k).getD ((p + k) / 8) 0) by rw [List.getD_eq_getElem?_getD, List.getElem?_eq_getElem (by rw [flips_length]; exact hq)]; rfl, Option.map_some] at cw
          have cf := hown.frozenAt ((p + k) / 8)
          have hbd := getD_byte _ (flips_byte xs p bu hb k) ((p + k) / 8)
          go_wp2_with fail
          have st := hown.stored ((p + k) / 8) (.int .u8 (bits .xor .u8 ((flips xs p bu k).getD ((p + k) / 8) 0) ((2 ^ ((p + k) % 8) : Nat) : Int)))
          rw [← List.map_set, show (flips xs p bu k).set ((p + k) / 8) (bits .xor .u8 ((flips xs p bu k).getD ((p + k) / 8) 0) ((2 ^ ((p + k) % 8) : Nat) : Int)) = flips xs p bu (k + 1) by rw [flips, if_pos hbk]; rfl] at st
          rw [← pow_mod, List.getD_eq_getElem?_getD] at st
          go_roundw
          case rel => exact ⟨k + 1, by omega, by go_num, st.1, hbel.setCell hg _⟩
          case measure => simp [intOf]; omega
        · rw [Bool.not_eq_true] at hbk
          rw [hbk] at hbt
          go_wp2_with fail
          go_roundw
          case rel => exact ⟨k + 1, by omega, by go_num, by rw [flips, if_neg (by rw [hbk]; decide)]; exact hown, hbel⟩
          case measure => simp [intOf]; omega
      · obtain rfl : k = 32 := by omega
        have hR : Rd wr (some ⟨g, 0, none⟩) (flips xs p bu 32) := by
          obtain ⟨a, c, he, hr'⟩ := rd_own hown (flips_length _ _ _ _)
          simp only [Value.slice.injEq, true_and] at he
          rw [he.1]; exact hr'
        have hS1 := sum_len _ _ xs.length cap1 wr (flips_length xs p bu 32) hR hl (flips_byte xs p bu hb 32)
        have hS2 := sum_any a0 xs cap0 wr (rd_below hr hbel (Nat.le_refl _)) hl hb
        have hne : (((more 0#32 (flips xs p bu 32)).toNat : Int) != ((more 0#32 xs).toNat : Int)) = true := by
          have := flips_seen xs p bu hb hp hbu
          simp only [bne_iff_ne, ne_eq]
          exact fun e => this (BitVec.eq_of_toNat_eq (by omega))
        generalize ((more 0#32 (flips xs p bu 32)).toNat : Int) = s1 at hS1 hne
        generalize ((more 0#32 xs).toNat : Int) = s2 at hS2 hne
        clear hown hR hr hb hp hown1 hbel1
        go_wp2_with fail
        refine hS1.mono ?_
        rintro e w' ⟨rfl, rfl⟩
        go_wp2_with fail
        refine hS2.mono ?_
        rintro e w' ⟨rfl, rfl⟩
        go_wp2_with fail
        refine (alive_any wr).mono ?_
        rintro e w' ⟨rfl, hbl⟩
        go_wp2_with fail
        go_ret
        exact ⟨rfl, hbel.trans (hbl.mono hbel.size)⟩

/-! ### THE ROW's STEP: WRITTEN OUT: LEAVE IT -/
set_option maxRecDepth 100000 in
theorem lifted (os : Os) (started : os.Started) (H : Type) (enc : TypeId × Value → H) :
    ReturnsInHanded {} Try.checked os 5 .any (Rows.crcBurstsSpec.pre6 enc Try.prog Try.f5 Rows.crcBurstsRow.domain false) (Rows.crcBurstsSpec.post enc Try.prog Try.f5 false true false false) := by
  refine returnsInHanded_of_change (C := Try.checked) own started (by kernel_rfl) Try.func5
    (ChangeSpec.witness6 (enc := enc) (C := Try.checked) false ⟨#[], #[.slice none 0 0, .int .i64 0, .int .u32 0], []⟩ 8 (by kernel_rfl) (by kernel_rfl) (by kernel_rfl) (by kernel_rfl)) ?_
  intro W base args ds gs before hval0 hW hcnd _
  have hval : ∀ (j : Nat) t v, Try.f5.params[j]? = some t → args[j]? = some v → Value.okWide Try.prog W .any base t v := hval0
  have hW' := hW
  obtain ⟨p, q, hA0, hV, rfl, hfz, hnd⟩ := hW
  have hA : DataW.TrodAll enc Try.prog W 0 (fun _ => true) true Try.f5.params.toList args.toList ds p := hA0
  rw [Try.params5] at hA hval
  obtain ⟨v0, vs0, d0, ds0, p0, q0, hargs, rfl, rfl, h0, r0⟩ := trodAll_cons hA
  obtain ⟨v1, vs1, d1, ds1, p1, q1, rfl, rfl, rfl, h1, r1⟩ := trodAll_cons r0
  obtain ⟨v2, vs2, d2, ds2, p2, q2, rfl, rfl, rfl, h2, r2⟩ := trodAll_cons r1
  obtain ⟨rfl, rfl, rfl⟩ := trodAll_nil r2
  obtain rfl : args = #[v0, v1, v2] := by cases args; simp_all
  obtain ⟨rfl, rfl⟩ := trodVars_none hV
  obtain ⟨a0, len0, cap0, rfl⟩ := okWide_slice Try.underlying22 (hval 0 22 v0 rfl rfl)
  have k0 := h0
  have lt0 : ∀ x ∈ p0, x.block < W.heap.size := by obtain ⟨m, hm⟩ := k0; exact DataW.trod_lt m _ _ _ hm
  obtain ⟨z0, w0⟩ : ∃ zs, IsRow .u8 W a0 len0 cap0 zs := by
    obtain ⟨fuel, hf⟩ := h0
    rcases open_ints Try.underlying22 Try.underlying5 (by kernel_rfl) hf with ⟨hcs, _⟩ | ⟨x, l, c, zs, hcs, _, hl, hm, hz, _, hcell, hwz⟩
    · simp [Value.cells] at hcs
      obtain ⟨rfl, rfl, rfl⟩ := hcs
      exact ⟨[], .inl ⟨rfl, rfl, rfl, rfl⟩⟩
    · simp [Value.cells] at hcs
      obtain ⟨rfl, rfl, rfl⟩ := hcs
      exact ⟨zs, .inr ⟨_, rfl, hl, hm, by simpa using hz, hcell, hwz⟩⟩
  obtain ⟨a1, rfl, rfl, rfl, w1⟩ := open_int Try.underlying3 (hval 1 3 v1 rfl rfl) h1
  obtain ⟨a2, rfl, rfl, rfl, w2⟩ := open_int Try.underlying23 (hval 2 23 v2 rfl rfl) h2
  clear hA0 hval0
  refine (walk a0 len0 cap0 z0 a1 a2 W w0 w1 w2).mono fun e W' ⟨he, bel⟩ => ?_
  subst he
  exact ⟨_, rfl, _, _, _, [], _, [], hW', trodAll_mk1 (shut_bool Try.underlying4 _), (trodAll_cons_mk (Below.trod laidOut (by kernel_rfl) (of_decide_eq_true (by kernel_rfl)) k0 bel lt0) (trodAll_cons_mk (shut_int Try.underlying3 w1) (trodAll_cons_mk (shut_int Try.underlying23 w2) trodAll_mk0))), rfl, bel.frame _, fun h => by cases h⟩

theorem over : Rows.crcBurstsRow.holds Try.pinned (OpenSpec.ofChange Rows.crcBurstsSpec) :=
  OpenClaim.holds_of_wide 5 Try.f5 rfl rfl rfl rfl rfl rfl rfl ⟨rfl, rfl, rfl, rfl, rfl⟩ rfl rfl rfl rfl rfl (by kernel_rfl) Try.func5 (by kernel_rfl)
    (of_decide_eq_true (by kernel_rfl)) (by unfold Func.isWrapper; first | (rw [if_pos (by decide +kernel)]; kernel_rfl) | (rw [if_neg (by decide +kernel)]; exact ⟨rfl, rfl⟩))
    (fun os started H enc _ => lifted os started H enc)

/-- ████ THE STATEMENT ████ -/
theorem proved : Rows.CrcBurstsSaid := over
#print axioms proved
end Go.Proofs.Ytpfmcobphaajlaa.crcBursts
