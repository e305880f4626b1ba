/-
  The walks of the document's cache: a list that is read, and built anew.
-/
import Derived.Test.YtlfefopcdfkngaaOpen
import Derived.Laws.OwnMore
import Derived.Laws.AppendOwnNone
namespace Go.Proofs.Ytlfefopcdfkngaa
open Go.RowKit
set_option linter.unusedVariables false
set_option linter.unusedSimpArgs false

theorem info33 : (Try.prog.info? 33).map (fun i => (i.zero, i.size, i.bytes)) = some (some (.agg #[.int .u64 0, .int .i64 0]), 2, 16) := by kernel_rfl

theorem getL_drop (l : List One) (t : Int) (k : Nat) (hk : k < l.length) : getL (l.drop k) t = if (l.getD k (0, 0)).1 = t then (l.getD k (0, 0)).2 else getL (l.drop (k + 1)) t := by
  rw [List.drop_eq_getElem_cons hk, getL, List.getD_eq_getElem?_getD, List.getElem?_eq_getElem hk]
  rfl

set_option maxHeartbeats 1000000 in
theorem refGet_any (a : Option Addr) (l : List One) (cap : Nat) (t : Int) (w : World) (hr : RdO w a l) (hl : l.length ≤ 1000) :
    Calls Try.prog 12 #[.slice a l.length cap, .int .u64 t] w fun e w' => e = .returned (.int .i64 (getL l t)) ∧ w = w' := by
  have H0 := hidden (show getL l t = getL (l.drop 0) t by rw [List.drop_zero])
  go_enter Try.func12, Try.ntmps12
  go_wp2
  go_loop [5] (fun i => ∃ k : Nat, k ≤ l.length ∧ i = .int .i64 k ∧ getL l t = getL (l.drop k) t) (fun i => l.length - (intOf i).toNat)
  case atStart => exact ⟨0, Nat.zero_le _, rfl, H0.out⟩
  case round =>
    obtain ⟨k, hk, rfl, hg⟩ := hrel
    by_cases hlt : k < l.length
    · obtain ⟨b, off, rfl, hc⟩ := hr.resolve_left (by intro e; subst e; simp at hlt)
      obtain ⟨c0, c1⟩ := hc k hlt
      have hd := getL_drop l t k hlt
      generalize (l.getD k (0, 0)).1 = x0 at c0 hd
      generalize (l.getD k (0, 0)).2 = x1 at c1 hd
      by_cases ht : x0 = t
      · rw [if_pos ht] at hd
        have HG := hidden (hg.trans hd)
        have hb : (x0 == t) = true := by simpa using ht
        clear hc hg hd ht
        go_wp2
        go_ret
        exact ⟨by rw [HG.out]; rfl, rfl⟩
      · rw [if_neg ht] at hd
        have HG := hidden (hg.trans hd)
        have hb : (x0 == t) = false := by simpa using ht
        clear hc hg hd ht
        go_wp2
        go_round
        case rel => exact ⟨k + 1, by omega, by go_num, HG.out⟩
        case measure => simp [intOf]; omega
    · have HG := hidden (show getL l t = 0 by rw [hg, List.drop_eq_nil_of_le (by omega)]; rfl)
      clear hg
      go_wp2
      go_ret
      exact ⟨by rw [HG.out]; rfl, rfl⟩

/-- The cells of a list. -/
def cellsL (l : List One) : List Value := l.flatMap fun x => [.int .u64 x.1, .int .i64 x.2]
theorem cellsL_length : ∀ l : List One, (cellsL l).length = l.length * 2
  | [] => rfl
  | x :: l => by
    show (cellsL (x :: l)).length = _
    unfold cellsL
    rw [List.flatMap_cons, List.length_append]
    have := cellsL_length l
    unfold cellsL at this
    rw [this, List.length_cons]; simp; omega
theorem cellsL_at : ∀ (l : List One) (i : Nat), i < l.length → (cellsL l)[i * 2]? = some (.int .u64 (l.getD i (0, 0)).1) ∧ (cellsL l)[i * 2 + 1]? = some (.int .i64 (l.getD i (0, 0)).2)
  | [], i, h => by simp at h
  | x :: l, 0, _ => ⟨rfl, rfl⟩
  | x :: l, i + 1, h => by
    have := cellsL_at l i (by simpa using h)
    have e : cellsL (x :: l) = .int .u64 x.1 :: .int .i64 x.2 :: cellsL l := rfl
    rw [e, show (i + 1) * 2 = i * 2 + 1 + 1 by omega]
    simpa using this
theorem cellsL_append (l m : List One) : cellsL (l ++ m) = cellsL l ++ cellsL m := List.flatMap_append
theorem cellsL_one (l : List One) : ∀ u ∈ cellsL l, u.oneCell' = true := by
  intro u hu
  simp only [cellsL, List.mem_flatMap, List.mem_cons, List.not_mem_nil, or_false] at hu
  obtain ⟨x, _, rfl | rfl⟩ := hu <;> rfl
theorem rdO_alloc {W : World} {a : Option Addr} {l : List One} (h : RdO W a l) (o : Obj) : RdO (W.alloc o) a l := by
  have keep : ∀ (p : Addr) (v : Value), W.cell? p = some v → (W.alloc o).cell? p = some v := fun p v hp => by
    rw [World.cell?_alloc_lt _ _ _ (World.block_lt_of_cell? W p hp)]; exact hp
  rcases h with rfl | ⟨b, off, rfl, hc⟩
  · exact .inl rfl
  · exact .inr ⟨b, off, rfl, fun i hi => ⟨keep _ _ (hc i hi).1, keep _ _ (hc i hi).2⟩⟩
theorem rdO_below {B : Nat} {w W : World} {a : Option Addr} {l : List One} (h : RdO w a l) (hb : Below B w W) (hB : w.heap.size ≤ B) : RdO W a l := by
  have keep : ∀ (p : Addr) (v : Value), w.cell? p = some v → W.cell? p = some v := fun p v hp => by
    rw [← hp]; exact World.cell?_of_block (hb.block _ (Nat.lt_of_lt_of_le (World.block_lt_of_cell? w p hp) hB))
  rcases h with rfl | ⟨b, off, rfl, hc⟩
  · exact .inl rfl
  · exact .inr ⟨b, off, rfl, fun i hi => ⟨keep _ _ (hc i hi).1, keep _ _ (hc i hi).2⟩⟩
theorem rdO_own {W : World} {B n : Nat} {v : Value} {l : List One} (h : W.ownsRow B 33 2 v n (cellsL l)) (hl : l.length = n) : ∃ a cap, v = .slice a n cap ∧ RdO W a l ∧ n ≤ cap ∧ (a = none → cap = 0) ∧ ∀ ad, a = some ad → B ≤ ad.block := by
  rcases h.2 with ⟨rfl, rfl⟩ | ⟨g, cap, cur, rfl, hB, _, hn, _⟩
  · exact ⟨none, 0, rfl, .inl (List.eq_nil_of_length_eq_zero hl), Nat.le_refl _, fun _ => rfl, fun ad h => by cases h⟩
  · refine ⟨_, cap, rfl, .inr ⟨_, _, rfl, fun i hi => ?_⟩, hn, (fun h => by cases h), fun ad h => by obtain rfl := Option.some.inj h; exact hB⟩
    obtain ⟨h0, h1⟩ := cellsL_at l i hi
    rw [Nat.zero_add]
    exact ⟨(h.cellAt (i * 2) (by omega)).trans h0, (h.cellAt (i * 2 + 1) (by omega)).trans h1⟩

theorem wpList_cloneO (w : World) {ops : Array Oper} {rest : List Oper} {o : Oper} {a : Act} {Q : Exit → Act → World → Prop} (hgd : o.guard = none) (s x : Operand)
    (ho : o.op = .call { callee := .builtin .append, args := #[s, x], argTypes := #[22, 22] }) (hs : a.eval s = .slice (some ⟨w.heap.size, 0, none⟩) 0 0)
    (ad : Option Addr) (n cap : Nat) (hx : a.eval x = .slice ad n cap) (hnil : ad = none → cap = 0) (l : List One) (hn : l.length = n) (hr : RdO w ad l) (hb : n ≤ 1000)
    (h : ∀ v' W, W.ownsRow w.heap.size 33 2 v' n (cellsL l) → Below w.heap.size w W → wpList Try.prog ops Q rest (a.put o.dst v') W) :
    wpList Try.prog ops Q (o :: rest) a (w.alloc (.cells #[] 33)) := by
  subst hn
  obtain ⟨i0, hi, hz0, hz1, hz2⟩ := info_parts info33
  have own : (w.alloc (.cells #[] 33)).ownsRow w.heap.size 33 2 (.slice (some ⟨w.heap.size, 0, none⟩) 0 0) 0 [] :=
    World.ownsRow_lit w #[] 0 (Nat.le_refl _) (Nat.zero_le _) rfl
  have bel : Below w.heap.size w (w.alloc (.cells #[] 33)) := (Below.refl _ _).alloc (Nat.le_refl _) _
  have hr' := rdO_alloc hr (.cells #[] 33)
  rcases ad with _ | ad
  · have h0 : l = [] := by
      rcases hr with h | ⟨b, off, h, _⟩
      · exact h
      · cases h
    subst h0
    have hx' : a.eval x = .slice none 0 0 := by rw [hx, hnil rfl]; rfl
    exact wpList_append_own_none hgd s x 22 ho w.heap.size 33 i0 2 Try.underlying22 hi _ 0 [] hs own hx' (h _ _ own bel)
  · refine wpList_append_own _ hgd s x 22 ho w.heap.size 33 i0 (.agg #[.int .u64 0, .int .i64 0]) 2 16 Try.underlying22 hi hz0 hz1 hz2 rfl (by decide) _ 0 [] hs own ad l.length cap (cellsL l) hx (cellsL_length l) ?_ (cellsL_one l) (by unfold maxLen; omega) (by omega) (by simp) ?_
    · intro j u hj
      rcases hr' with rfl | ⟨b, off, he, hc⟩
      · simp [cellsL] at hj
      · obtain rfl := Option.some.inj he
        have hjl : j < l.length * 2 := by
          rw [← cellsL_length]; exact (List.getElem?_eq_some_iff.1 hj).1
        rw [WideShapes.add_plain]
        obtain ⟨c0, c1⟩ := hc (j / 2) (by omega)
        obtain ⟨e0, e1⟩ := cellsL_at l (j / 2) (by omega)
        rcases Nat.mod_two_eq_zero_or_one j with hm | hm
        · have ej : j = j / 2 * 2 := by omega
          rw [ej] at hj ⊢
          rw [c0, ← e0]; exact hj
        · have ej : j = j / 2 * 2 + 1 := by omega
          rw [ej] at hj ⊢
          rw [← Nat.add_assoc, c1, ← e1]; exact hj
    · intro v' W h1 h2 _
      rw [Nat.zero_add, List.nil_append] at h1
      exact h v' W h1 (bel.grown h2 (by simp) (fun k hk => by simp [Value.ownBlock] at hk; omega))

end Go.Proofs.Ytlfefopcdfkngaa
