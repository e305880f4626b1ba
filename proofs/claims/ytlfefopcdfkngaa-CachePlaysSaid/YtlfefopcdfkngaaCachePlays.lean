/- What each call on a cache answers, and which verdicts it has behind it, in their order, is the document's, and the chapter's example holds: the law CachePlays answers true at every input, with no condition beside the row's own. -/
import Derived.Test.YtlfefopcdfkngaaRows
import Derived.Test.YtlfefopcdfkngaaWalk4
import Derived.Test.YtlfefopcdfkngaaMath3
import Derived.WalkKit
import Derived.ProofKit
import Derived.OpenShut
import Derived.ChangeOld
import Derived.Below
namespace Go.Proofs.Ytlfefopcdfkngaa.cachePlays
open Go.ChangeShapes Go.WideShapes Go.ChangeAt Go.RowKit
set_option linter.unusedVariables false

theorem own : ownKnob Try.prog.godebug = none := by kernel_rfl
theorem laidOut : laidOutB Try.prog = true := by kernel_rfl

theorem own_shape {W : World} {B n e sz : Nat} {v : Value} {xs : List Value} (h : W.ownsRow B e sz v n xs) : ∃ a cap, v = .slice a n cap := by
  rcases h.2 with ⟨rfl, rfl⟩ | ⟨g, cap, cur, rfl, hg, _⟩
  · exact ⟨none, 0, rfl⟩
  · exact ⟨_, cap, rfl⟩
theorem fin2 {w a b : World} {B : Nat} (hB : w.heap.size = B) (h : Below B w a) (h1 : Below a.heap.size a b) : Below B w b := h.trans (h1.mono (by rw [← hB]; exact h.size))
/-- The document's list in memory, beside the cache. -/
def Mem (w : World) (g B : Nat) (a : Option Addr) (cap : Nat) (m : List One) : Prop := RdO w a m ∧ m.length ≤ cap ∧ (a = none → cap = 0) ∧ ∀ ad, a = some ad → ad.block ≠ g ∧ ad.block ≠ B

theorem sk_below {w W W' : World} {g B most b off k : Nat} {t v : Int} {a : Option Addr} {m : List One} (h0 : W.cell? ⟨b, off + k * 2, none⟩ = some (.int .u64 t)) (h1 : W.cell? ⟨b, off + k * 2 + 1, none⟩ = some (.int .i64 v))
    (h2 : RdO W a m) (h3 : Ca W g B most m) (h4 : Below B w W) (hb : b < B) (hB : w.heap.size = B) (h : Below W.heap.size W W') :
    W'.cell? ⟨b, off + k * 2, none⟩ = some (.int .u64 t) ∧ W'.cell? ⟨b, off + k * 2 + 1, none⟩ = some (.int .i64 v) ∧ RdO W' a m ∧ Ca W' g B most m ∧ Below B w W' :=
  ⟨(h.cell (p := ⟨b, off + k * 2, none⟩) (World.block_lt_of_cell? W _ h0)).trans h0, (h.cell (p := ⟨b, off + k * 2 + 1, none⟩) (World.block_lt_of_cell? W _ h1)).trans h1, rdO_below h2 h (Nat.le_refl _), h3.below h, fin2 hB h4 h⟩

theorem rdO_only {w W : World} {g B : Nat} {a : Option Addr} {l : List One} (h : RdO w a l) (ho : Only w W g B) (ha : ∀ ad, a = some ad → ad.block ≠ g ∧ ad.block ≠ B) : RdO W a l := by
  rcases h with rfl | ⟨b, off, rfl, hc⟩
  · exact .inl rfl
  · obtain ⟨h1, h2⟩ := ha _ rfl
    have keep : ∀ j, W.cell? ⟨b, j, none⟩ = w.cell? ⟨b, j, none⟩ := fun j => World.cell?_of_block (ho.block b h1 h2)
    exact .inr ⟨b, off, rfl, fun i hi => by rw [keep, keep]; exact hc i hi⟩
theorem sk_only {w W W' : World} {g B b off k cap : Nat} {t v : Int} {a : Option Addr} {m : List One} (h0 : W.cell? ⟨b, off + k * 2, none⟩ = some (.int .u64 t)) (h1 : W.cell? ⟨b, off + k * 2 + 1, none⟩ = some (.int .i64 v))
    (h2 : Mem W g B a cap m) (h4 : Below B w W) (hb : b < B) (hg : B ≤ g) (h : Only W W' g B) :
    W'.cell? ⟨b, off + k * 2, none⟩ = some (.int .u64 t) ∧ W'.cell? ⟨b, off + k * 2 + 1, none⟩ = some (.int .i64 v) ∧ Mem W' g B a cap m ∧ Below B w W' := by
  have keep : ∀ j, W'.cell? ⟨b, j, none⟩ = W.cell? ⟨b, j, none⟩ := fun j => World.cell?_of_block (h.block b (by omega) (by omega))
  exact ⟨(keep _).trans h0, (keep _).trans h1, ⟨rdO_only h2.1 h h2.2.2.2, h2.2⟩, h4.trans (h.below hg (Nat.le_refl _))⟩

theorem keysL_at (m : List One) (j : Nat) (h : j < m.length) : (keysL m)[j]? = some (m.getD j (0, 0)).1 := by
  rw [keysL, List.getElem?_map, List.getElem?_eq_getElem h, List.getD_eq_getElem?_getD, List.getElem?_eq_getElem h]; rfl
theorem getL_at {most : Nat} : ∀ {m : List One}, Good most m → ∀ j, j < m.length → getL m (m.getD j (0, 0)).1 = (m.getD j (0, 0)).2 := by
  intro m hg
  have key : ∀ (l : List One), (keysL l).Nodup → ∀ j, j < l.length → getL l (l.getD j (0, 0)).1 = (l.getD j (0, 0)).2 := by
    intro l
    induction l with
    | nil => intro _ j h; simp at h
    | cons x l ih =>
      intro hn j hj
      simp only [keysL, List.map_cons, List.nodup_cons] at hn
      cases j with
      | zero => show getL (x :: l) x.1 = x.2; rw [getL, if_pos rfl]
      | succ j =>
        have hj' : j < l.length := by simpa using hj
        have e : (x :: l).getD (j + 1) (0, 0) = l.getD j (0, 0) := by simp
        rw [e, getL, if_neg, ih hn.2 j hj']
        intro q
        apply hn.1
        rw [q]
        exact List.mem_map.2 ⟨_, by rw [List.getD_eq_getElem?_getD, List.getElem?_eq_getElem hj']; exact List.getElem_mem hj', rfl⟩
  exact fun j hj => key m hg.nodup j hj

/-! ### STEP 1 -/
set_option maxRecDepth 100000 in
set_option maxHeartbeats 1600000 in
theorem walk (a0 : Int) (a1 : Option Addr) (cap1 : Nat) (L : List One) (w : World) (w0 : (Lit.int .i64 a0).wf = true) (hr : RdO w a1 L) (hfit : FitO L) (hlm : L.length ≤ maxLen) (hnil : a1 = none → cap1 = 0) :
    Calls Try.prog 3 #[.int .i64 a0, .slice a1 L.length cap1] w fun e w' => e = .returned (.bool true) ∧ Below w.heap.size w w' := by
  have g0 : (-9223372036854775808 : Int) ≤ a0 ∧ a0 ≤ 9223372036854775807 := by simp [Lit.wf, IntKind.min, IntKind.max, IntKind.signed, IntKind.bits] at w0; omega
  clear w0
  by_cases hl : 300 < L.length
  · have d : decide ((300 : Int) < (L.length : Int)) = true := by simp; omega
    clear g0
    go_enter Try.func3, Try.ntmps3
    go_wp2_with fail
    refine (alive_any w).mono ?_
    rintro e w' ⟨rfl, hb⟩
    go_wp2_with fail
    go_ret
    exact ⟨rfl, hb⟩
  have d1 : decide ((300 : Int) < (L.length : Int)) = false := by simp; omega
  by_cases hok : 1 ≤ a0 ∧ a0 ≤ 64
  · obtain ⟨most, rfl⟩ := Int.eq_ofNat_of_zero_le (show 0 ≤ a0 by omega)
    have d2 : decide ((most : Int) < 1) = false := by simp; omega
    have d3 : decide ((64 : Int) < (most : Int)) = false := by simp; omega
    have hm1 : 1 ≤ most := by omega
    have hm2 : most ≤ 64 := by omega
    have hn : L.length ≤ 300 := by omega
    clear g0 hok hlm hl
    go_enter Try.func3, Try.ntmps3
    go_wp2_with fail
    refine (new_any most hm1 hm2 w).mono ?_
    rintro e wn ⟨rfl, hca, hbel0, hsz⟩
    have hsg : w.heap.size ≤ w.heap.size + 1 := by omega
    generalize w.heap.size + 1 = g at hca hsg
    generalize hB : w.heap.size = B at hca
    have HB := hidden hB
    rw [hB] at hsg
    clear hB
    go_wp2_with fail
    refine (alive_any wn).mono ?_
    rintro e wa ⟨rfl, hbela⟩
    have hca2 := hca.below hbela
    have hbel2 : Below B w wa := by rw [← HB.out]; exact hbel0.trans (hbela.mono hbel0.size)
    clear hca hbel0 hbela
    go_wp2_with fail
    go_loopw [7, 8] (fun x i wr => ∃ (k : Nat) (m : List One) (a : Option Addr) (cap : Nat), k ≤ L.length ∧ i = .int .i64 k ∧ x = .slice a m.length cap ∧ Mem wr g B a cap m ∧ Ca wr g B most m ∧ Below B w wr) (fun _ i _ => L.length - (intOf i).toNat)
    case atStart => exact ⟨0, [], none, 0, Nat.zero_le _, rfl, rfl, ⟨.inl rfl, Nat.le_refl _, fun _ => rfl, fun ad h => by cases h⟩, hca2, hbel2⟩
    case round =>
      obtain ⟨k, m, a, cap, hk, rfl, rfl, hmem, hca, hbel⟩ := hrel
      by_cases hlt : k < L.length
      · obtain ⟨b, off, rfl, hc⟩ := hr.resolve_left (by intro e; subst e; simp at hlt)
        obtain ⟨c0, c1⟩ := hc k hlt
        have hf := hfit _ (show L.getD k (0, 0) ∈ L by rw [List.getD_eq_getElem?_getD, List.getElem?_eq_getElem hlt]; exact List.getElem_mem hlt)
        obtain ⟨f0, f1, f2, f3⟩ := hf
        have hbB : b < B := by rw [← HB.out]; exact World.block_lt_of_cell? w _ c0
        have e0 := (hbel.cell (p := ⟨b, off + k * 2, none⟩) hbB).trans c0
        have e1 := (hbel.cell (p := ⟨b, off + k * 2 + 1, none⟩) hbB).trans c1
        have hml := hca.good.len
        have hR := fun W (hW : RdO W a m) => refPut_any a m cap most (L.getD k (0, 0)).1 (L.getD k (0, 0)).2 W hW (by omega) hmem.2.1 hmem.2.2.1 hm1 hm2
        have hP := fun W (hW : Ca W g B most m) => put_any g B most m (L.getD k (0, 0)).1 (L.getD k (0, 0)).2 f0 f1 W hW
        have hG := fun W (hW : Ca W g B most (putL m most (L.getD k (0, 0)).1 (L.getD k (0, 0)).2).1) => get_any g B most _ (L.getD k (0, 0)).1 f0 f1 W hW
        have hgd := hca.good.put (L.getD k (0, 0)).1 (L.getD k (0, 0)).2 ⟨f0, f1⟩ hm1
        have C0 := hidden c0
        have C1 := hidden c1
        clear c0 c1 hc f0 f1 f2 f3
        generalize (L.getD k (0, 0)).1 = t at e0 hG hP hR hgd C0
        generalize (L.getD k (0, 0)).2 = v at e1 hP hG hR hgd C1
        unfold RefPost at hR
        generalize (putL m most t v).2 = is at hP hR
        generalize (putL m most t v).1 = m2 at hP hG hR hgd
        have K0 := sk_below e0 e1 hmem.1 hca hbel hbB HB.out ((Below.refl wr.heap.size wr).drew)
        have HM := hidden hmem.2
        have HL := hidden hca.lt
        clear e0 e1 hca hbel hmem
        go_wp2_with fail
        go_region_held3 (fun W => W.cell? ⟨b, off + k * 2, none⟩ = some (.int .u64 t) ∧ W.cell? ⟨b, off + k * 2 + 1, none⟩ = some (.int .i64 v) ∧ RdO W a m ∧ Ca W g B most m ∧ Below B w W)
          (first | exact K0 | (go_split_ands; exact sk_below (by assumption) (by assumption) (by assumption) (by assumption) (by assumption) hbB HB.out hbel3))
          ((go_at_call 8; go_split_ands; refine (hR _ (by assumption)).mono ?_; rintro e w1 ⟨a2, cap2, rfl, hr2, hl2, hn2, hbel3, haw⟩))
        obtain ⟨s0, s1, _, s3, s4⟩ : w1.cell? ⟨b, off + k * 2, none⟩ = some (.int .u64 t) ∧ w1.cell? ⟨b, off + k * 2 + 1, none⟩ = some (.int .i64 v) ∧ RdO w1 a m ∧ Ca w1 g B most m ∧ Below B w w1 := by assumption
        have hmem3 : Mem w1 g B a2 cap2 m2 := ⟨hr2, hl2, hn2, fun ad h => by
          rcases haw ad h with q | q
          · exact HM.out.2.2 ad q
          · have := HL.out.1; have := HL.out.2; simp at q; omega⟩
        have K1 : Ca w1.drew g B most m := s3.kept rfl rfl
        have S1 : w1.drew.cell? ⟨b, off + k * 2, none⟩ = some (.int .u64 t) ∧ w1.drew.cell? ⟨b, off + k * 2 + 1, none⟩ = some (.int .i64 v) ∧ Mem w1.drew g B a2 cap2 m2 ∧ Below B w w1.drew := ⟨s0, s1, hmem3, s4.drew⟩
        clear hR HM HL hr2 hl2 hn2 haw hbel3 s0 s1 s3 s4 hmem3
        go_wp2_with fail
        go_region_held3 (fun W => W.cell? ⟨b, off + k * 2, none⟩ = some (.int .u64 t) ∧ W.cell? ⟨b, off + k * 2 + 1, none⟩ = some (.int .i64 v) ∧ Mem W g B a2 cap2 m2 ∧ Below B w W)
          (first | exact S1 | (go_split_ands; exact sk_only (by assumption) (by assumption) (by assumption) (by assumption) hbB hsg ho2))
          ((go_at_call 9; refine (hP w1.drew K1).mono ?_; rintro e w2 ⟨rfl, hca2, ho2⟩))
        obtain ⟨s0, s1, s2, s4⟩ : w2.cell? ⟨b, off + k * 2, none⟩ = some (.int .u64 t) ∧ w2.cell? ⟨b, off + k * 2 + 1, none⟩ = some (.int .i64 v) ∧ Mem w2 g B a2 cap2 m2 ∧ Below B w w2 := by assumption
        have his : (is != is) = false := by simp
        have hA := all_any g B most m2 w2 hca2
        clear hP K1 ho2
        go_wp2_with fail
        refine hA.mono ?_
        rintro e w3 ⟨va, rfl, hown, hbel5⟩
        obtain ⟨aa, ca, hva⟩ := own_shape hown
        rw [hva]
        rw [hva] at hown
        have hca3 := hca2.below hbel5
        have x0 := (hbel5.cell (p := ⟨b, off + k * 2, none⟩) (World.block_lt_of_cell? w2 _ s0)).trans s0
        have hmem3 : Mem w3 g B a2 cap2 m2 := ⟨rdO_below s2.1 hbel5 (Nat.le_refl _), s2.2⟩
        have hbel6 : Below B w w3 := fin2 HB.out s4 hbel5
        have hGq := fun n => (hG (w3.drewN n) (hca3.kept rfl rfl)).mono fun e w' (h : _ ∧ _) => (⟨h.1, h.2.symm⟩ : _ ∧ w' = _)
        have hRq := fun n => (refGet_any a2 m2 cap2 t (w3.drewN n) hmem3.1 (by have := hgd.len; omega)).mono fun e w' (h : _ ∧ _) => (⟨h.1, h.2.symm⟩ : _ ∧ w' = _)
        have hgg : (getL m2 t != getL m2 t) = false := by simp
        have hll : ((m2.length : Int) != (m2.length : Int)) = false := by simp
        clear hA hca2 hbel5 hva s0 s1 s2 s4 hG
        go_wp2_with fail
        go_quiet (first | (go_at_call 11; exact Calls.quiet_of_same (hGq _)) | (go_at_call 12; exact Calls.quiet_of_same (hRq _)))
        clear hGq hRq x0
        go_wp2_with fail
        go_loopw [12] (fun i wq => ∃ j n : Nat, j ≤ m2.length ∧ i = .int .i64 j ∧ wq = w3.drewN n) (fun i _ => m2.length - (intOf i).toNat)
        case atStart => exact ⟨0, _, Nat.zero_le _, rfl, rfl⟩
        case round =>
          obtain ⟨j, n, hj, rfl, rfl⟩ := hrel
          by_cases hjl : j < m2.length
          · obtain ⟨gg, cc, he⟩ := own_slice hown (by omega)
            simp only [Value.slice.injEq, true_and] at he
            obtain ⟨rfl, rfl⟩ := he
            have ca1 := hown.cellAt j (by omega)
            rw [List.getElem?_map, keysL_at m2 j hjl, Option.map_some] at ca1
            obtain ⟨b2, off2, rfl, hc2⟩ := hmem3.1.resolve_left (by intro e; subst e; simp at hjl)
            obtain ⟨y0, y1⟩ := hc2 j hjl
            have hnum := hgd.one _ (show m2.getD j (0, 0) ∈ m2 by rw [List.getD_eq_getElem?_getD, List.getElem?_eq_getElem hjl]; exact List.getElem_mem hjl)
            have hGq := fun x => (get_any g B most m2 (m2.getD j (0, 0)).1 (Int.le_of_lt hnum.1) hnum.2.1 (w3.drewN (n + x)) (hca3.kept rfl rfl)).mono fun e w' (h : _ ∧ _) => (⟨h.1, x, h.2.symm⟩ : _ ∧ ∃ y, w' = w3.drewN (n + y))
            rw [getL_at hgd j hjl] at hGq
            have q1 : ((m2.getD j (0, 0)).1 != (m2.getD j (0, 0)).1) = false := by simp
            have q2 : ((m2.getD j (0, 0)).2 != (m2.getD j (0, 0)).2) = false := by simp
            have q3 : (j : Int) < (m2.length : Int) := by omega
            have q4 : (0 : Int) ≤ (j : Int) := by omega
            have q5 : m2.length ≤ 64 := Nat.le_trans hgd.len hm2
            clear hc2 hnum
            generalize (m2.getD j (0, 0)).1 = z0 at ca1 y0 hGq q1
            generalize (m2.getD j (0, 0)).2 = z1 at y1 hGq q2
            have HMEM := hidden hmem3
            have HOWN := hidden hown
            clear hmem3 hown
            go_wp2_with fail
            go_quiet ((go_at_call 11; exact hGq _))
            go_wp2_with fail
            go_roundw
            case rel => exact ⟨j + 1, _, by omega, by go_num, rfl⟩
            case measure => simp [intOf]; omega
          · go_wp2_with fail
            go_roundw
            case rel => exact ⟨k + 1, m2, a2, cap2, by omega, by go_num, rfl, hmem3, hca3.kept rfl rfl, below_drewN hbel6 _⟩
            case measure => simp [intOf]; omega
      · go_wp2_with fail
        go_ret
        exact ⟨rfl, by rw [HB.out]; exact hbel⟩
  · by_cases h2 : a0 < 1
    · have hN := new_bad a0 (.inl h2) w
      have d : decide (a0 < 1) = true := by simp; omega
      clear g0 hok
      go_enter Try.func3, Try.ntmps3
      go_wp2_with fail
      refine hN.mono ?_
      rintro e w' ⟨rfl, rfl⟩
      go_wp2_with fail
      refine (alive_any w).mono ?_
      rintro e w' ⟨rfl, hb⟩
      go_wp2_with fail
      go_ret
      exact ⟨rfl, hb⟩
    have hN := new_bad a0 (.inr (by omega)) w
    have d : decide (a0 < 1) = false := by simp; omega
    have d3 : decide ((64 : Int) < a0) = true := by simp; omega
    clear g0 hok
    go_enter Try.func3, Try.ntmps3
    go_wp2_with fail
    refine hN.mono ?_
    rintro e w' ⟨rfl, rfl⟩
    go_wp2_with fail
    refine (alive_any w).mono ?_
    rintro e w' ⟨rfl, hb⟩
    go_wp2_with fail
    go_ret
    exact ⟨rfl, hb⟩

/-! ### THE ROW's STEP -/
set_option maxRecDepth 100000 in
theorem lifted (os : Os) (started : os.Started) (H : Type) (enc : TypeId × Value → H) :
    ReturnsInHanded {} Try.checked os 3 .any (Rows.cachePlaysSpec.pre6 enc Try.prog Try.f3 Rows.cachePlaysRow.domain false) (Rows.cachePlaysSpec.post enc Try.prog Try.f3 false true false false) := by
  refine returnsInHanded_of_change (C := Try.checked) own started (by kernel_rfl) Try.func3
    (ChangeSpec.witness6 (enc := enc) (C := Try.checked) false ⟨#[], #[.int .i64 0, .slice none 0 0], []⟩ 8 (by kernel_rfl) (by kernel_rfl) (by kernel_rfl) (by kernel_rfl)) ?_
  intro W base args ds gs before hval0 hW hcnd _
  have hval : ∀ (j : Nat) t v, Try.f3.params[j]? = some t → args[j]? = some v → Value.okWide Try.prog W .any base t v := hval0
  have hW' := hW
  obtain ⟨p, q, hA0, hV, rfl, hfz, hnd⟩ := hW
  have hA : DataW.TrodAll enc Try.prog W 0 (fun _ => true) true Try.f3.params.toList args.toList ds p := hA0
  rw [Try.params3] at hA hval
  obtain ⟨v0, vs0, d0, ds0, p0, q0, hargs, rfl, rfl, h0, r0⟩ := trodAll_cons hA
  obtain ⟨v1, vs1, d1, ds1, p1, q1, rfl, rfl, rfl, h1, r1⟩ := trodAll_cons r0
  obtain ⟨rfl, rfl, rfl⟩ := trodAll_nil r1
  obtain rfl : args = #[v0, v1] := by cases args; simp_all
  obtain ⟨rfl, rfl⟩ := trodVars_none hV
  obtain ⟨a0, rfl, rfl, rfl, w0⟩ := open_int Try.underlying3 (hval 0 3 v0 rfl rfl) h0
  obtain ⟨a1, len1, cap1, rfl⟩ := okWide_slice Try.underlying22 (hval 1 22 v1 rfl rfl)
  have k1 := h1
  have lt1 : ∀ x ∈ p1, x.block < W.heap.size := by obtain ⟨m, hm⟩ := k1; exact DataW.trod_lt m _ _ _ hm
  obtain ⟨L, rfl, hr, hfit, hlm, hnil⟩ := open_ones h1
  clear hA0 hval0
  refine (walk a0 a1 cap1 L W w0 hr hfit hlm hnil).mono fun e W' ⟨he, bel⟩ => ?_
  subst he
  exact ⟨_, rfl, _, _, _, [], _, [], hW', trodAll_mk1 (shut_bool Try.underlying4 _), (trodAll_cons_mk (shut_int Try.underlying3 w0) (trodAll_cons_mk (Below.trod laidOut (by kernel_rfl) (of_decide_eq_true (by kernel_rfl)) k1 bel lt1) trodAll_mk0)), rfl, bel.frame _, fun h => by cases h⟩

theorem over : Rows.cachePlaysRow.holds Try.pinned (OpenSpec.ofChange Rows.cachePlaysSpec) :=
  OpenClaim.holds_of_wide 3 Try.f3 rfl rfl rfl rfl rfl rfl rfl ⟨rfl, rfl, rfl, rfl, rfl⟩ rfl rfl rfl rfl rfl (by kernel_rfl) Try.func3 (by kernel_rfl)
    (of_decide_eq_true (by kernel_rfl)) (by unfold Func.isWrapper; first | (rw [if_pos (by decide +kernel)]; kernel_rfl) | (rw [if_neg (by decide +kernel)]; exact ⟨rfl, rfl⟩))
    (fun os started H enc _ => lifted os started H enc)

/-- The statement. -/
theorem proved : Rows.CachePlaysSaid := over
#print axioms proved
end Go.Proofs.Ytlfefopcdfkngaa.cachePlays
