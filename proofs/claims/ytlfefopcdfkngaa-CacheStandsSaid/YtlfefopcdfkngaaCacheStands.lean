/- A verdict does not change while it is there, the last ones are there, at most as many as may be, a cache that is not there answers nothing, and the chapter's example holds: the law CacheStands answers true at every input, with no condition beside the row's own. -/
import Derived.Test.YtlfefopcdfkngaaRows
import Derived.Test.YtlfefopcdfkngaaOpen
import Derived.Test.YtlfefopcdfkngaaMath3
import Derived.WalkKit
import Derived.ProofKit
import Derived.OpenShut
import Derived.ChangeOld
import Derived.Below
namespace Go.Proofs.Ytlfefopcdfkngaa.cacheStands
open Go.ChangeShapes Go.WideShapes Go.ChangeAt Go.RowKit
set_option linter.unusedVariables false

theorem own : ownKnob Try.prog.godebug = none := by kernel_rfl
theorem laidOut : laidOutB Try.prog = true := by kernel_rfl

theorem own_shape {W : World} {B n e sz : Nat} {v : Value} {xs : List Value} (h : W.ownsRow B e sz v n xs) : ∃ a cap, v = .slice a n cap := by
  rcases h.2 with ⟨rfl, rfl⟩ | ⟨g, cap, cur, rfl, hg, _⟩
  · exact ⟨none, 0, rfl⟩
  · exact ⟨_, cap, rfl⟩

theorem fin2 {w a b : World} {B : Nat} (hB : w.heap.size = B) (h : Below B w a) (h1 : Below a.heap.size a b) : Below B w b := h.trans (h1.mono (by rw [← hB]; exact h.size))

/-! ### STEP 1 -/
set_option maxRecDepth 100000 in
set_option maxHeartbeats 1600000 in
theorem walk (a0 : Int) (a1 : Option Addr) (cap1 : Nat) (L : List One) (w : World) (w0 : (Lit.int .i64 a0).wf = true) (hr : RdO w a1 L) (hfit : FitO L) (hlm : L.length ≤ maxLen) (hnil : a1 = none → cap1 = 0) :
    Calls Try.prog 4 #[.int .i64 a0, .slice a1 L.length cap1] w fun e w' => e = .returned (.bool true) ∧ Below w.heap.size w w' := by
  have g0 : (-9223372036854775808 : Int) ≤ a0 ∧ a0 ≤ 9223372036854775807 := by simp [Lit.wf, IntKind.min, IntKind.max, IntKind.signed, IntKind.bits] at w0; omega
  clear w0
  by_cases hok : L.length ≤ 300 ∧ 1 ≤ a0 ∧ a0 ≤ 64
  · obtain ⟨most, rfl⟩ := Int.eq_ofNat_of_zero_le (show 0 ≤ a0 by omega)
    have d1 : decide ((300 : Int) < (L.length : Int)) = false := by simp; omega
    have d2 : decide ((most : Int) < 1) = false := by simp; omega
    have d3 : decide ((64 : Int) < (most : Int)) = false := by simp; omega
    have hm1 : 1 ≤ most := by omega
    have hm2 : most ≤ 64 := by omega
    have hn : L.length ≤ 300 := by omega
    clear g0 hok hlm
    go_enter Try.func4, Try.ntmps4
    go_wp2_with fail
    refine (new_any most hm1 hm2 w).mono ?_
    rintro e wn ⟨rfl, hca, hbel0, hsz⟩
    have hsg : w.heap.size ≤ w.heap.size + 1 := by omega
    generalize w.heap.size + 1 = g at hca hsg
    generalize hB : w.heap.size = B at hca
    have HB := hidden hB
    rw [hB] at hsg
    clear hB
    go_wp2_with fail
    go_loopw [7] (fun i wr => ∃ (k : Nat) (m : List One), k ≤ L.length ∧ i = .int .i64 k ∧ Ca wr g B most m ∧ Below B w wr) (fun i _ => L.length - (intOf i).toNat)
    case atStart => exact ⟨0, [], Nat.zero_le _, rfl, hca, by rw [← HB.out]; exact hbel0⟩
    case round =>
      obtain ⟨k, m, hk, rfl, hca, hbel⟩ := hrel
      by_cases hlt : k < L.length
      · obtain ⟨b, off, rfl, hc⟩ := hr.resolve_left (by intro e; subst e; simp at hlt)
        obtain ⟨c0, c1⟩ := hc k hlt
        have hf := hfit _ (show L.getD k (0, 0) ∈ L by rw [List.getD_eq_getElem?_getD, List.getElem?_eq_getElem hlt]; exact List.getElem_mem hlt)
        obtain ⟨f0, f1, f2, f3⟩ := hf
        have e0 := (hbel.cell (p := ⟨b, off + k * 2, none⟩) (by rw [← HB.out]; exact World.block_lt_of_cell? w _ c0)).trans c0
        have e1 := (hbel.cell (p := ⟨b, off + k * 2 + 1, none⟩) (by rw [← HB.out]; exact World.block_lt_of_cell? w _ c1)).trans c1
        have hbB : b < B := by rw [← HB.out]; exact World.block_lt_of_cell? w _ c0
        have hG := get_any g B most m _ f0 f1 wr hca
        have hP := fun W (hW : Ca W g B most m) => put_any g B most m _ (L.getD k (0, 0)).2 f0 f1 W hW
        have hG2 := fun W (hW : Ca W g B most (putL m most (L.getD k (0, 0)).1 (L.getD k (0, 0)).2).1) => get_any g B most _ (L.getD k (0, 0)).1 f0 f1 W hW
        have hpg := put_get hca.good (L.getD k (0, 0)).1 (L.getD k (0, 0)).2
        have hgd := (hca.good.put (L.getD k (0, 0)).1 (L.getD k (0, 0)).2 ⟨f0, f1⟩ hm1).len
        have C0 := hidden c0
        have C1 := hidden c1
        clear c0 c1 hc f0 f1 f2 f3
        generalize (L.getD k (0, 0)).1 = t at e0 hG hP hG2 hpg hgd C0
        generalize (L.getD k (0, 0)).2 = v at e1 hP hG2 hpg hgd C1
        have HPG := hidden hpg
        have HGD := hidden hgd
        clear hpg hgd
        go_wp2_with fail
        refine hG.mono ?_
        rintro e w' ⟨rfl, rfl⟩
        clear hG
        go_wp2_with fail
        go_still_tail 11, (by kernel_rfl)
        go_wp2_with fail
        refine (hP wr.drew (hca.kept rfl rfl)).mono ?_
        rintro e w1 ⟨rfl, hca1, ho1⟩
        have hbel1 : Below B w w1 := hbel.drew.trans (ho1.below hsg (Nat.le_refl _))
        have x0 := (hbel1.cell (p := ⟨b, off + k * 2, none⟩) hbB).trans C0.out
        have x1 := (hbel1.cell (p := ⟨b, off + k * 2 + 1, none⟩) hbB).trans C1.out
        have hG3 := hG2 _ hca1
        have hA := all_any g B most _ w1 hca1
        clear hP hG2 e0 e1 hbel ho1
        generalize (putL m most t v).2 = is at HPG ⊢
        generalize (putL m most t v).1 = m2 at HPG HGD hca1 hG3 hA ⊢
        go_wp2_with fail
        refine hG3.mono ?_
        rintro e w' ⟨rfl, rfl⟩
        clear hG3
        have hpg := HPG.out
        clear HPG
        generalize getL m t = old at hpg ⊢
        generalize getL m2 t = now at hpg ⊢
        have hmost : m2.length ≤ most := HGD.out
        obtain ⟨p1, p2, p3⟩ := hpg
        cases is
        · obtain rfl : now = old := p3 rfl
          have bn : (now != now) = false := by simp
          clear p1 p2 p3
          by_cases o : now = 0
          · have bo : (now != (0 : Int)) = false := by simp [o]
            clear o
            go_wp2_with fail
            refine hA.mono ?_
            rintro e w5 ⟨va, rfl, hown, hbel5⟩
            obtain ⟨aa, ca, hva⟩ := own_shape hown
            have hca5 := hca1.below hbel5
            rw [hva]
            clear hA hown hva
            go_wp2_with fail
            go_roundw
            case rel => exact ⟨k + 1, m2, by omega, by go_num, hca5, fin2 HB.out hbel1 hbel5⟩
            case measure => simp [intOf]; omega
          · have bo : (now != (0 : Int)) = true := by simp [o]
            clear o
            go_wp2_with fail
            refine hA.mono ?_
            rintro e w5 ⟨va, rfl, hown, hbel5⟩
            obtain ⟨aa, ca, hva⟩ := own_shape hown
            have hca5 := hca1.below hbel5
            rw [hva]
            clear hA hown hva
            go_wp2_with fail
            go_roundw
            case rel => exact ⟨k + 1, m2, by omega, by go_num, hca5, fin2 HB.out hbel1 hbel5⟩
            case measure => simp [intOf]; omega
        · obtain rfl : now = v := p2 rfl
          have bn : (now != now) = false := by simp
          by_cases o : old = 0
          · have bo : (old != (0 : Int)) = false := by simp [o]
            clear o p1 p2 p3
            go_wp2_with fail
            refine hA.mono ?_
            rintro e w5 ⟨va, rfl, hown, hbel5⟩
            obtain ⟨aa, ca, hva⟩ := own_shape hown
            have hca5 := hca1.below hbel5
            rw [hva]
            clear hA hown hva
            go_wp2_with fail
            go_roundw
            case rel => exact ⟨k + 1, m2, by omega, by go_num, hca5, fin2 HB.out hbel1 hbel5⟩
            case measure => simp [intOf]; omega
          · obtain rfl : now = old := p1 o
            have bo : (now != (0 : Int)) = true := by simp [o]
            clear o p1 p2 p3
            go_wp2_with fail
            refine hA.mono ?_
            rintro e w5 ⟨va, rfl, hown, hbel5⟩
            obtain ⟨aa, ca, hva⟩ := own_shape hown
            have hca5 := hca1.below hbel5
            rw [hva]
            clear hA hown hva
            go_wp2_with fail
            go_roundw
            case rel => exact ⟨k + 1, m2, by omega, by go_num, hca5, fin2 HB.out hbel1 hbel5⟩
            case measure => simp [intOf]; omega
      · go_wp2_with fail
        refine (put_nil 1 1 wr).mono ?_
        rintro e w' ⟨rfl, rfl⟩
        go_wp2_with fail
        refine (get_nil 1 wr).mono ?_
        rintro e w' ⟨rfl, rfl⟩
        go_wp2_with fail
        refine (all_nil wr).mono ?_
        rintro e w' ⟨rfl, rfl⟩
        go_wp2_with fail
        refine (alive_any wr).mono ?_
        rintro e w5 ⟨rfl, hbel5⟩
        go_wp2_with fail
        go_ret
        exact ⟨rfl, by rw [HB.out]; exact fin2 HB.out hbel hbel5⟩
  · by_cases h0 : (300 : Int) < (L.length : Int)
    · have d : decide ((300 : Int) < (L.length : Int)) = true := by simp; omega
      clear g0 hok
      go_enter Try.func4, Try.ntmps4
      go_wp2_with fail
      refine (alive_any w).mono ?_
      rintro e w' ⟨rfl, hb⟩
      go_wp2_with fail
      go_ret
      exact ⟨rfl, hb⟩
    have d0 : decide ((300 : Int) < (L.length : Int)) = false := by simp; omega
    by_cases h1 : a0 < 1
    · have d : decide (a0 < 1) = true := by simp; omega
      clear g0 hok
      go_enter Try.func4, Try.ntmps4
      go_wp2_with fail
      refine (alive_any w).mono ?_
      rintro e w' ⟨rfl, hb⟩
      go_wp2_with fail
      go_ret
      exact ⟨rfl, hb⟩
    have d1 : decide (a0 < 1) = false := by simp; omega
    have d : decide ((64 : Int) < a0) = true := by simp; omega
    clear g0 hok
    go_enter Try.func4, Try.ntmps4
    go_wp2_with fail
    refine (alive_any w).mono ?_
    rintro e w' ⟨rfl, hb⟩
    go_wp2_with fail
    go_ret
    exact ⟨rfl, hb⟩

/-! ### THE ROW's STEP -/
set_option maxRecDepth 100000 in
theorem lifted (os : Os) (started : os.Started) (H : Type) (enc : TypeId × Value → H) :
    ReturnsInHanded {} Try.checked os 4 .any (Rows.cacheStandsSpec.pre6 enc Try.prog Try.f4 Rows.cacheStandsRow.domain false) (Rows.cacheStandsSpec.post enc Try.prog Try.f4 false true false false) := by
  refine returnsInHanded_of_change (C := Try.checked) own started (by kernel_rfl) Try.func4
    (ChangeSpec.witness6 (enc := enc) (C := Try.checked) false ⟨#[], #[.int .i64 0, .slice none 0 0], []⟩ 8 (by kernel_rfl) (by kernel_rfl) (by kernel_rfl) (by kernel_rfl)) ?_
  intro W base args ds gs before hval0 hW hcnd _
  have hval : ∀ (j : Nat) t v, Try.f4.params[j]? = some t → args[j]? = some v → Value.okWide Try.prog W .any base t v := hval0
  have hW' := hW
  obtain ⟨p, q, hA0, hV, rfl, hfz, hnd⟩ := hW
  have hA : DataW.TrodAll enc Try.prog W 0 (fun _ => true) true Try.f4.params.toList args.toList ds p := hA0
  rw [Try.params4] at hA hval
  obtain ⟨v0, vs0, d0, ds0, p0, q0, hargs, rfl, rfl, h0, r0⟩ := trodAll_cons hA
  obtain ⟨v1, vs1, d1, ds1, p1, q1, rfl, rfl, rfl, h1, r1⟩ := trodAll_cons r0
  obtain ⟨rfl, rfl, rfl⟩ := trodAll_nil r1
  obtain rfl : args = #[v0, v1] := by cases args; simp_all
  obtain ⟨rfl, rfl⟩ := trodVars_none hV
  obtain ⟨a0, rfl, rfl, rfl, w0⟩ := open_int Try.underlying3 (hval 0 3 v0 rfl rfl) h0
  obtain ⟨a1, len1, cap1, rfl⟩ := okWide_slice Try.underlying22 (hval 1 22 v1 rfl rfl)
  have k1 := h1
  have lt1 : ∀ x ∈ p1, x.block < W.heap.size := by obtain ⟨m, hm⟩ := k1; exact DataW.trod_lt m _ _ _ hm
  obtain ⟨L, rfl, hr, hfit, hlm, hnil⟩ := open_ones h1
  clear hA0 hval0
  refine (walk a0 a1 cap1 L W w0 hr hfit hlm hnil).mono fun e W' ⟨he, bel⟩ => ?_
  subst he
  exact ⟨_, rfl, _, _, _, [], _, [], hW', trodAll_mk1 (shut_bool Try.underlying4 _), (trodAll_cons_mk (shut_int Try.underlying3 w0) (trodAll_cons_mk (Below.trod laidOut (by kernel_rfl) (of_decide_eq_true (by kernel_rfl)) k1 bel lt1) trodAll_mk0)), rfl, bel.frame _, fun h => by cases h⟩

theorem over : Rows.cacheStandsRow.holds Try.pinned (OpenSpec.ofChange Rows.cacheStandsSpec) :=
  OpenClaim.holds_of_wide 4 Try.f4 rfl rfl rfl rfl rfl rfl rfl ⟨rfl, rfl, rfl, rfl, rfl⟩ rfl rfl rfl rfl rfl (by kernel_rfl) Try.func4 (by kernel_rfl)
    (of_decide_eq_true (by kernel_rfl)) (by unfold Func.isWrapper; first | (rw [if_pos (by decide +kernel)]; kernel_rfl) | (rw [if_neg (by decide +kernel)]; exact ⟨rfl, rfl⟩))
    (fun os started H enc _ => lifted os started H enc)

/-- The statement. -/
theorem proved : Rows.CacheStandsSaid := over
#print axioms proved
end Go.Proofs.Ytlfefopcdfkngaa.cacheStands
