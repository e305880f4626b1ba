/- Of verdicts of traces that come once each (or twice) the last ones are there, as many as may be, and no others, and the chapter's example holds: the law CacheLast answers true at every input, with no condition beside the row's own. -/
import Derived.Test.YtlfefopcdfkngaaRows
import Derived.Test.YtlfefopcdfkngaaWalk2
import Derived.Test.YtlfefopcdfkngaaMath2
import Derived.WalkKit
import Derived.ProofKit
import Derived.OpenShut
import Derived.ShutString
namespace Go.Proofs.Ytlfefopcdfkngaa.cacheLast
open Go.ChangeShapes Go.WideShapes Go.ChangeAt Go.RowKit
open Go.ChangeMaps (open_string shut_string)
set_option linter.unusedVariables false      -- a walk need not use every 'w<i>' (that an integer argument fits its kind)

theorem own : ownKnob Try.prog.godebug = none := by kernel_rfl

theorem put_step (g B most k : Nat) (v : Int) (hm : 1 ≤ most) (hv : 1 ≤ v ∧ v ≤ 3) {n : Nat} (hn : n ≤ 300) (hlt : k < n) (w : World) (h : Ca w g B most (lastL most k v)) :
    Calls Try.prog 9 #[.pointer (some ⟨g, 0, none⟩), .int .u64 ((k : Int) + 1), .int .i64 v] w fun e w' => e = .returned (.bool true) ∧ Ca w' g B most (lastL most (k + 1) v) ∧ Only w w' g B := by
  have hp := put_any g B most _ ((k + 1 : Nat) : Int) v (by omega) (by omega) w h
  rw [putL_new most k v hv hm] at hp
  exact hp
theorem put_same (g B most k : Nat) (v : Int) (hm : 1 ≤ most) (hv : 1 ≤ v ∧ v ≤ 3) {n : Nat} (hn : n ≤ 300) (hlt : k < n) (w : World) (h : Ca w g B most (lastL most (k + 1) v)) :
    Calls Try.prog 9 #[.pointer (some ⟨g, 0, none⟩), .int .u64 ((k : Int) + 1), .int .i64 v] w fun e w' => e = .returned (.bool true) ∧ Ca w' g B most (lastL most (k + 1) v) ∧ Only w w' g B := by
  have hp := put_any g B most _ ((k + 1 : Nat) : Int) v (by omega) (by omega) w h
  rw [putL_again most k v hv hm] at hp
  exact hp

theorem own_shape {W : World} {B n e sz : Nat} {v : Value} {xs : List Value} (h : W.ownsRow B e sz v n xs) : ∃ a cap, v = .slice a n cap := by
  rcases h.2 with ⟨rfl, rfl⟩ | ⟨g, cap, cur, rfl, hg, _⟩
  · exact ⟨none, 0, rfl⟩
  · exact ⟨_, cap, rfl⟩

theorem get_last (g B most k j : Nat) (v : Int) (hn : k ≤ 300) (hlt : j < k) (w : World) (h : Ca w g B most (lastL most k v)) :
    Calls Try.prog 11 #[.pointer (some ⟨g, 0, none⟩), .int .u64 ((j : Int) + 1)] w fun e w' => e = .returned (.int .i64 (if (k : Int) - (most : Int) < (j : Int) + 1 then v else 0)) ∧ w = w' := by
  have hp := get_any g B most _ ((j + 1 : Nat) : Int) (by omega) (by omega) w h
  rw [getL_last most k v (j + 1) (by omega) (by omega)] at hp
  exact hp

theorem fin3 {w a b c : World} {B : Nat} (hB : w.heap.size = B) (h : Below B w a) (h1 : Below a.heap.size a b) (h2 : Below b.heap.size b c) : Below w.heap.size w c := by
  subst hB
  exact (h.trans (h1.mono h.size)).trans (h2.mono (Nat.le_trans h.size h1.size))

/-! ### STEP 1: THE WALK: the Go text returns true. 'Grown w w'': the world has at most new blocks (Derived/RowKit3.lean). Part the cases AHEAD of 'go_enter' where a test parts the walk; take each callee by a contract of your own. -/
set_option maxRecDepth 100000 in
set_option maxHeartbeats 1600000 in
theorem walk (a0 : Int) (a1 : Int) (a2 : Int) (w0 : (Lit.int .i64 a0).wf = true) (w1 : (Lit.int .i64 a1).wf = true) (w2 : (Lit.int .i64 a2).wf = true) (w : World) :
    Calls Try.prog 5 #[.int .i64 a0, .int .i64 a1, .int .i64 a2] w fun e w' => e = .returned (.bool true) ∧ Below w.heap.size w w' := by
  have g0 : (-9223372036854775808 : Int) ≤ a0 ∧ a0 ≤ 9223372036854775807 := by simp [Lit.wf, IntKind.min, IntKind.max, IntKind.signed, IntKind.bits] at w0; omega
  have g1 : (-9223372036854775808 : Int) ≤ a1 ∧ a1 ≤ 9223372036854775807 := by simp [Lit.wf, IntKind.min, IntKind.max, IntKind.signed, IntKind.bits] at w1; omega
  have g2 : (-9223372036854775808 : Int) ≤ a2 ∧ a2 ≤ 9223372036854775807 := by simp [Lit.wf, IntKind.min, IntKind.max, IntKind.signed, IntKind.bits] at w2; omega
  clear w0 w1 w2
  by_cases hok : 1 ≤ a0 ∧ a0 ≤ 64 ∧ 0 ≤ a1 ∧ a1 ≤ 300 ∧ 1 ≤ a2 ∧ a2 ≤ 3
  · obtain ⟨most, rfl⟩ := Int.eq_ofNat_of_zero_le (show 0 ≤ a0 by omega)
    obtain ⟨n, rfl⟩ := Int.eq_ofNat_of_zero_le (show 0 ≤ a1 by omega)
    have d1 : decide ((most : Int) < 1) = false := by simp; omega
    have d2 : decide ((64 : Int) < (most : Int)) = false := by simp; omega
    have d3 : decide ((n : Int) < 0) = false := by simp
    have d4 : decide ((300 : Int) < (n : Int)) = false := by simp; omega
    have d5 : decide (a2 < 1) = false := by simp; omega
    have d6 : decide ((3 : Int) < a2) = false := by simp; omega
    have hm1 : 1 ≤ most := by omega
    have hm2 : most ≤ 64 := by omega
    have hn : n ≤ 300 := by omega
    have hv : 1 ≤ a2 ∧ a2 ≤ 3 := by omega
    clear g0 g1 g2 hok
    go_enter Try.func5, Try.ntmps5
    go_wp2_with fail
    refine (new_any most hm1 hm2 w).mono ?_
    rintro e wn ⟨rfl, hca, hbel0, hsz⟩
    have hsg : w.heap.size ≤ w.heap.size + 1 := by omega
    generalize w.heap.size + 1 = g at hca hsg
    generalize hB : w.heap.size = B at hca
    have HB := hidden hB
    rw [hB] at hsg
    clear hB
    go_wp2_with fail
    go_loopw [9] (fun i wr => ∃ k : Nat, k ≤ n ∧ i = .int .i64 (k + 1 : Nat) ∧ Ca wr g B most (lastL most k a2) ∧ Below B w wr) (fun i _ => n + 1 - (intOf i).toNat)
    case atStart => exact ⟨0, Nat.zero_le _, rfl, by simpa [lastL, runL] using hca, by rw [← HB.out]; exact hbel0⟩
    case round =>
      obtain ⟨k, hk, rfl, hca, hbel⟩ := hrel
      by_cases hlt : k < n
      · have hp1 := put_step g B most k a2 hm1 hv hn hlt wr hca
        go_wp2_with fail
        refine hp1.mono ?_
        rintro e w1 ⟨rfl, hca1, ho1⟩
        have hp2 := put_same g B most k a2 hm1 hv hn hlt w1 hca1
        clear hp1 hca
        go_wp2_with fail
        refine hp2.mono ?_
        rintro e w2 ⟨rfl, hca2, ho2⟩
        clear hp2 hca1
        go_wp2_with fail
        go_roundw
        case rel => exact ⟨k + 1, by omega, by go_num, hca2, (hbel.trans (ho1.below hsg (Nat.le_refl _))).trans (ho2.below hsg (Nat.le_refl _))⟩
        case measure => simp [intOf]; omega
      · obtain rfl : k = n := by omega
        have hA := all_any g B most _ wr hca
        go_wp2_with fail
        refine hA.mono ?_
        rintro e w1 ⟨v, rfl, hown, hbel1⟩
        have hca1 := hca.below hbel1
        rw [lastL_length] at hown
        by_cases hk0 : k = 0
        · have hz0 : ((k : Int) == 0) = true := by simp [hk0]
          have HK := hidden hk0
          have hkm : k ≤ most := by omega
          clear hk0
          obtain ⟨a, c, hva⟩ := own_shape hown
          rw [hva]
          clear hA hca hva hown
          rw [Nat.min_eq_left (by have := HK.out; omega)]
          go_wp2_with fail
          go_loopw [11] (fun i wq => ∃ j : Nat, j ≤ k ∧ i = .int .i64 (j + 1 : Nat) ∧ wq = w1) (fun i _ => k + 1 - (intOf i).toNat)
          case atStart => exact ⟨0, Nat.zero_le _, rfl, rfl⟩
          case round =>
            obtain ⟨j, hj, rfl, rfl⟩ := hrel
            by_cases hjk : j < k
            · have hG := get_last g B most k j a2 hn hjk wr hca1
              by_cases hwant : (k : Int) - (most : Int) < (j : Int) + 1
              · rw [if_pos hwant] at hG
                go_wp2_with fail
                refine hG.mono ?_
                rintro e w' ⟨rfl, rfl⟩
                clear hG
                go_wp2_with fail
                go_roundw
                case rel => exact ⟨j + 1, by omega, by go_num, trivial⟩
                case measure => simp [intOf]; omega
              · rw [if_neg hwant] at hG
                first
                  | (exfalso; omega)
                  | (go_wp2_with fail
                     refine hG.mono ?_
                     rintro e w' ⟨rfl, rfl⟩
                     clear hG
                     go_wp2_with fail
                     go_roundw
                     case rel => exact ⟨j + 1, by omega, by go_num, trivial⟩
                     case measure => simp [intOf]; omega)
            · have hnj : ¬ ((j : Int) + 1 ≤ (k : Int)) := by omega
              go_wp2_with fail
              refine (alive_any wr).mono ?_
              rintro e w5 ⟨rfl, hbel5⟩
              go_wp2_with fail
              go_ret
              exact ⟨rfl, fin3 HB.out hbel hbel1 hbel5⟩
        obtain ⟨ga, c, hva⟩ := own_slice hown (by omega)
        rw [hva]
        rw [hva] at hown
        have hlast := hown.cellAt (min k most - 1) (by omega)
        rw [List.getElem?_map, lastL_key most k a2 (by omega), Option.map_some] at hlast
        clear hA hca hva hown
        rcases Nat.lt_or_ge most k with hmk | hmk
        · rw [Nat.min_eq_right (by omega)] at hlast ⊢
          have hz : ((most : Int) == 0) = false := by simp; omega
          have hz1 : (0 : Int) ≤ (most : Int) - 1 := by omega
          go_wp2_with fail
          go_loopw [11] (fun i wq => ∃ j : Nat, j ≤ k ∧ i = .int .i64 (j + 1 : Nat) ∧ wq = w1) (fun i _ => k + 1 - (intOf i).toNat)
          case atStart => exact ⟨0, Nat.zero_le _, rfl, rfl⟩
          case round =>
            obtain ⟨j, hj, rfl, rfl⟩ := hrel
            by_cases hjk : j < k
            · have hG := get_last g B most k j a2 hn hjk wr hca1
              by_cases hwant : (k : Int) - (most : Int) < (j : Int) + 1
              · rw [if_pos hwant] at hG
                go_wp2_with fail
                refine hG.mono ?_
                rintro e w' ⟨rfl, rfl⟩
                clear hG
                go_wp2_with fail
                go_roundw
                case rel => exact ⟨j + 1, by omega, by go_num, trivial⟩
                case measure => simp [intOf]; omega
              · rw [if_neg hwant] at hG
                first
                  | (exfalso; omega)
                  | (go_wp2_with fail
                     refine hG.mono ?_
                     rintro e w' ⟨rfl, rfl⟩
                     clear hG
                     go_wp2_with fail
                     go_roundw
                     case rel => exact ⟨j + 1, by omega, by go_num, trivial⟩
                     case measure => simp [intOf]; omega)
            · have hnj : ¬ ((j : Int) + 1 ≤ (k : Int)) := by omega
              go_wp2_with fail
              refine (alive_any wr).mono ?_
              rintro e w5 ⟨rfl, hbel5⟩
              go_wp2_with fail
              go_ret
              exact ⟨rfl, fin3 HB.out hbel hbel1 hbel5⟩
        · rw [Nat.min_eq_left (by omega)] at hlast ⊢
          have hz : ((k : Int) == 0) = false := by simp; omega
          have hz1 : (0 : Int) ≤ (k : Int) - 1 := by omega
          go_wp2_with fail
          go_loopw [11] (fun i wq => ∃ j : Nat, j ≤ k ∧ i = .int .i64 (j + 1 : Nat) ∧ wq = w1) (fun i _ => k + 1 - (intOf i).toNat)
          case atStart => exact ⟨0, Nat.zero_le _, rfl, rfl⟩
          case round =>
            obtain ⟨j, hj, rfl, rfl⟩ := hrel
            by_cases hjk : j < k
            · have hG := get_last g B most k j a2 hn hjk wr hca1
              by_cases hwant : (k : Int) - (most : Int) < (j : Int) + 1
              · rw [if_pos hwant] at hG
                go_wp2_with fail
                refine hG.mono ?_
                rintro e w' ⟨rfl, rfl⟩
                clear hG
                go_wp2_with fail
                go_roundw
                case rel => exact ⟨j + 1, by omega, by go_num, trivial⟩
                case measure => simp [intOf]; omega
              · rw [if_neg hwant] at hG
                first
                  | (exfalso; omega)
                  | (go_wp2_with fail
                     refine hG.mono ?_
                     rintro e w' ⟨rfl, rfl⟩
                     clear hG
                     go_wp2_with fail
                     go_roundw
                     case rel => exact ⟨j + 1, by omega, by go_num, trivial⟩
                     case measure => simp [intOf]; omega)
            · have hnj : ¬ ((j : Int) + 1 ≤ (k : Int)) := by omega
              go_wp2_with fail
              refine (alive_any wr).mono ?_
              rintro e w5 ⟨rfl, hbel5⟩
              go_wp2_with fail
              go_ret
              exact ⟨rfl, fin3 HB.out hbel hbel1 hbel5⟩
  · by_cases h0 : a0 < 1
    · have d : decide (a0 < 1) = true := by simp; omega
      clear g0 g1 g2 hok
      go_enter Try.func5, Try.ntmps5
      go_wp2_with fail
      refine (alive_any w).mono ?_
      rintro e w' ⟨rfl, hb⟩
      go_wp2_with fail
      go_ret
      exact ⟨rfl, hb⟩
    have d0 : decide (a0 < 1) = false := by simp; omega
    by_cases h1 : (64 : Int) < a0
    · have d : decide ((64 : Int) < a0) = true := by simp; omega
      clear g0 g1 g2 hok
      go_enter Try.func5, Try.ntmps5
      go_wp2_with fail
      refine (alive_any w).mono ?_
      rintro e w' ⟨rfl, hb⟩
      go_wp2_with fail
      go_ret
      exact ⟨rfl, hb⟩
    have d1 : decide ((64 : Int) < a0) = false := by simp; omega
    by_cases h2 : a1 < 0
    · have d : decide (a1 < 0) = true := by simp; omega
      clear g0 g1 g2 hok
      go_enter Try.func5, Try.ntmps5
      go_wp2_with fail
      refine (alive_any w).mono ?_
      rintro e w' ⟨rfl, hb⟩
      go_wp2_with fail
      go_ret
      exact ⟨rfl, hb⟩
    have d2 : decide (a1 < 0) = false := by simp; omega
    by_cases h3 : (300 : Int) < a1
    · have d : decide ((300 : Int) < a1) = true := by simp; omega
      clear g0 g1 g2 hok
      go_enter Try.func5, Try.ntmps5
      go_wp2_with fail
      refine (alive_any w).mono ?_
      rintro e w' ⟨rfl, hb⟩
      go_wp2_with fail
      go_ret
      exact ⟨rfl, hb⟩
    have d3 : decide ((300 : Int) < a1) = false := by simp; omega
    by_cases h4 : a2 < 1
    · have d : decide (a2 < 1) = true := by simp; omega
      clear g0 g1 g2 hok
      go_enter Try.func5, Try.ntmps5
      go_wp2_with fail
      refine (alive_any w).mono ?_
      rintro e w' ⟨rfl, hb⟩
      go_wp2_with fail
      go_ret
      exact ⟨rfl, hb⟩
    have d4 : decide (a2 < 1) = false := by simp; omega
    have d : decide ((3 : Int) < a2) = true := by simp; omega
    clear g0 g1 g2 hok
    go_enter Try.func5, Try.ntmps5
    go_wp2_with fail
    refine (alive_any w).mono ?_
    rintro e w' ⟨rfl, hb⟩
    go_wp2_with fail
    go_ret
    exact ⟨rfl, hb⟩

/-! ### THE ROW's STEP: WRITTEN OUT: LEAVE IT -/
set_option maxRecDepth 100000 in
theorem lifted (os : Os) (started : os.Started) (H : Type) (enc : TypeId × Value → H) :
    ReturnsInHanded {} Try.checked os 5 .any (Rows.cacheLastSpec.pre6 enc Try.prog Try.f5 Rows.cacheLastRow.domain false) (Rows.cacheLastSpec.post enc Try.prog Try.f5 false true false false) := by
  refine returnsInHanded_of_change (C := Try.checked) own started (by kernel_rfl) Try.func5
    (ChangeSpec.witness6 (enc := enc) (C := Try.checked) false ⟨#[], #[.int .i64 0, .int .i64 0, .int .i64 0], []⟩ 8 (by kernel_rfl) (by kernel_rfl) (by kernel_rfl) (by kernel_rfl)) ?_
  intro W base args ds gs before hval0 hW hcnd _
  have hval : ∀ (j : Nat) t v, Try.f5.params[j]? = some t → args[j]? = some v → Value.okWide Try.prog W .any base t v := hval0
  have hW' := hW
  obtain ⟨p, q, hA0, hV, rfl, hfz, hnd⟩ := hW
  have hA : DataW.TrodAll enc Try.prog W 0 (fun _ => true) true Try.f5.params.toList args.toList ds p := hA0
  rw [Try.params5] at hA hval
  obtain ⟨v0, vs0, d0, ds0, p0, q0, hargs, rfl, rfl, h0, r0⟩ := trodAll_cons hA
  obtain ⟨v1, vs1, d1, ds1, p1, q1, rfl, rfl, rfl, h1, r1⟩ := trodAll_cons r0
  obtain ⟨v2, vs2, d2, ds2, p2, q2, rfl, rfl, rfl, h2, r2⟩ := trodAll_cons r1
  obtain ⟨rfl, rfl, rfl⟩ := trodAll_nil r2
  obtain rfl : args = #[v0, v1, v2] := by cases args; simp_all
  obtain ⟨rfl, rfl⟩ := trodVars_none hV
  obtain ⟨a0, rfl, rfl, rfl, w0⟩ := open_int Try.underlying3 (hval 0 3 v0 rfl rfl) h0
  obtain ⟨a1, rfl, rfl, rfl, w1⟩ := open_int Try.underlying3 (hval 1 3 v1 rfl rfl) h1
  obtain ⟨a2, rfl, rfl, rfl, w2⟩ := open_int Try.underlying31 (hval 2 31 v2 rfl rfl) h2
  clear hA0 hval0
  refine (walk a0 a1 a2 w0 w1 w2 W).mono fun e W' ⟨he, hg⟩ => ?_
  subst he
  exact ⟨_, rfl, _, _, _, [], _, [], hW', trodAll_mk1 (shut_bool Try.underlying4 _), (trodAll_cons_mk (shut_int Try.underlying3 w0) (trodAll_cons_mk (shut_int Try.underlying3 w1) (trodAll_cons_mk (shut_int Try.underlying31 w2) trodAll_mk0))), rfl, hg.frame _, fun h => by cases h⟩

theorem over : Rows.cacheLastRow.holds Try.pinned (OpenSpec.ofChange Rows.cacheLastSpec) :=
  OpenClaim.holds_of_wide 5 Try.f5 rfl rfl rfl rfl rfl rfl rfl ⟨rfl, rfl, rfl, rfl, rfl⟩ rfl rfl rfl rfl rfl (by kernel_rfl) Try.func5 (by kernel_rfl)
    (of_decide_eq_true (by kernel_rfl)) (by unfold Func.isWrapper; first | (rw [if_pos (by decide +kernel)]; kernel_rfl) | (rw [if_neg (by decide +kernel)]; exact ⟨rfl, rfl⟩))
    (fun os started H enc _ => lifted os started H enc)

/-- ████ THE STATEMENT ████ -/
theorem proved : Rows.CacheLastSaid :=
  over
#print axioms proved
end Go.Proofs.Ytlfefopcdfkngaa.cacheLast
