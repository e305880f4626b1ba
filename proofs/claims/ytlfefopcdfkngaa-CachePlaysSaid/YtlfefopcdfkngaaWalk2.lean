/-
  The walk of what must come at any rate, and small facts on a cache's frame.
-/
import Derived.Test.YtlfefopcdfkngaaWalk1
namespace Go.Proofs.Ytlfefopcdfkngaa
set_option linter.unusedVariables false
set_option linter.unusedSimpArgs false
open Go.RowKit

theorem Only.below {w w' : World} {g B base : Nat} (h : Only w w' g B) (hg : base ≤ g) (hB : base ≤ B) : Below base w w' :=
  ⟨h.os, h.tape, h.output, Nat.le_of_eq h.size.symm, fun k hk => h.block k (by omega) (by omega)⟩
/-- A cache stays what it is where its two blocks are kept. -/
theorem Ca.kept {w w' : World} {g B most : Nat} {l : List One} (h : Ca w g B most l) (hg : w'.heap[g]? = w.heap[g]?) (hB : w'.heap[B]? = w.heap[B]?) : Ca w' g B most l := by
  obtain ⟨first, C, D, h1, h2, h3, h4, h5, h6, h7, h8, h9, ⟨es, clock, hb, r⟩, h11, h12, h13⟩ := h
  exact ⟨first, C, D, hg.trans h1, h2, h3, h4, h5, h6, h7, h8, h9, ⟨es, clock, hB.trans hb, r⟩, h11, h12, h13⟩
theorem Ca.lt {w : World} {g B most : Nat} {l : List One} (h : Ca w g B most l) : g < w.heap.size ∧ B < w.heap.size := by
  obtain ⟨first, C, D, h1, h2, h3, h4, h5, h6, h7, h8, h9, hown, h11, h12, h13⟩ := h
  exact ⟨(Array.getElem?_eq_some_iff.1 h1).1, hown.lt⟩
theorem Ca.below {w w' : World} {g B most : Nat} {l : List One} (h : Ca w g B most l) (hb : Below w.heap.size w w') : Ca w' g B most l :=
  h.kept (hb.block g h.lt.1) (hb.block B h.lt.2)
theorem Ca.good {w : World} {g B most : Nat} {l : List One} (h : Ca w g B most l) : Good most l := by
  obtain ⟨first, C, D, h1, h2, h3, h4, h5, h6, h7, h8, h9, hown, h11, h12, h13⟩ := h
  exact h13
theorem Ca.most {w : World} {g B most : Nat} {l : List One} (h : Ca w g B most l) : 1 ≤ most ∧ most ≤ 64 := by
  obtain ⟨first, C, D, h1, h2, h3, h4, h5, h6, h7, h8, h9, hown, h11, h12, h13⟩ := h
  omega

/-- A put, whatever is put. -/
theorem put_any (g B most : Nat) (l : List One) (t v : Int) (h0 : 0 ≤ t) (h1 : t < 18446744073709551616) (w : World) (h : Ca w g B most l) :
    Calls Try.prog 9 #[.pointer (some ⟨g, 0, none⟩), .int .u64 t, .int .i64 v] w fun e w' => e = .returned (.bool (putL l most t v).2) ∧ Ca w' g B most (putL l most t v).1 ∧ Only w w' g B := by
  have hgood := h.good
  have hm := h.most
  unfold putL
  by_cases hbad : t = 0 ∨ v < 1 ∨ 3 < v
  · rw [if_pos (by omega)]
    refine (put_bad _ t v hbad w).mono ?_
    rintro e w' ⟨rfl, rfl⟩
    exact ⟨rfl, h, Only.refl _ _ _⟩
  · have hmem := getL_mem l t (fun x hx => (hgood.one x hx).2.2.1)
    by_cases hk : t ∈ keysL l
    · have hne := hmem.2 hk
      refine (put_old g B most l t v (by omega) h1 (by omega) (by omega) w h hk).mono ?_
      rintro e w' ⟨rfl, rfl⟩
      by_cases hv : getL l t = v
      · rw [if_neg (by omega), if_pos hv]
        exact ⟨by simp [hv], h, Only.refl _ _ _⟩
      · rw [if_pos (by omega)]
        exact ⟨by simp [hv], h, Only.refl _ _ _⟩
    · have h00 : getL l t = 0 := by
        by_cases q : getL l t = 0
        · exact q
        · exact absurd (hmem.1 q) hk
      rw [if_neg (by omega), if_neg (by omega)]
      by_cases hlt : l.length < most
      · rw [if_neg (by omega)]
        exact put_room g B most l t v (by omega) h1 (by omega) (by omega) w h hk hlt
      · rw [if_pos (by omega)]
        have hl := hgood.len
        match l, h, hk, hlt, hl with
        | [], _, _, hlt, _ => simp at hlt; omega
        | (t0, v0) :: r, h, hk, hlt, hl => exact put_full g B most t0 v0 r t v (by omega) h1 (by omega) (by omega) w h hk (by simp at hlt hl; omega)

theorem own_slice {W : World} {B n e sz : Nat} {v : Value} {xs : List Value} (h : W.ownsRow B e sz v n xs) (hn : 0 < n) : ∃ g cap, v = .slice (some ⟨g, 0, none⟩) n cap := by
  rcases h.2 with ⟨rfl, h0⟩ | ⟨g, cap, cur, rfl, hg, _⟩
  · omega
  · exact ⟨g, cap, rfl⟩
set_option maxHeartbeats 1000000 in
theorem alive_any (w : World) : Calls Try.prog 6 #[] w fun e w' => e = .returned (.bool true) ∧ Below w.heap.size w w' := by
  go_enter Try.func6, Try.ntmps6
  go_wp2_with fail
  refine (new_any 1 (by decide) (by decide) w).mono ?_
  rintro e w1 ⟨rfl, hca, hbel, hsz⟩
  go_wp2_with fail
  refine (put_any _ _ 1 [] 1 1 (by decide) (by decide) w1 hca).mono ?_
  rintro e w2 ⟨rfl, hca2, ho2⟩
  go_wp2_with fail
  refine (put_any _ _ 1 _ 2 2 (by decide) (by decide) w2 hca2).mono ?_
  rintro e w3 ⟨rfl, hca3, ho3⟩
  rw [show (putL [] 1 1 1).2 = true from by decide, show (putL (putL [] 1 1 1).1 1 2 2).2 = true from by decide]
  rw [show (putL (putL [] 1 1 1).1 1 2 2).1 = [(2, 2)] from by decide] at hca3
  clear hca hca2
  go_wp2_with fail
  refine (get_any _ _ 1 _ 1 (by decide) (by decide) w3 hca3).mono ?_
  rintro e w' ⟨rfl, rfl⟩
  rw [show getL [(2, 2)] 1 = 0 from by decide]
  go_wp2_with fail
  refine (get_any _ _ 1 _ 2 (by decide) (by decide) w3 hca3).mono ?_
  rintro e w' ⟨rfl, rfl⟩
  rw [show getL [(2, 2)] 2 = 2 from by decide]
  go_wp2_with fail
  refine (all_any _ _ 1 _ w3 hca3).mono ?_
  rintro e w4 ⟨v, rfl, hown, hbel4⟩
  obtain ⟨gv, cv, hv⟩ := own_slice hown (by decide)
  rw [hv]
  go_wp2_with fail
  go_ret
  have b3 : Below w.heap.size w w3 := (hbel.trans (ho2.below (by omega) (by omega))).trans (ho3.below (by omega) (by omega))
  exact ⟨rfl, b3.trans (hbel4.mono b3.size)⟩

end Go.Proofs.Ytlfefopcdfkngaa
