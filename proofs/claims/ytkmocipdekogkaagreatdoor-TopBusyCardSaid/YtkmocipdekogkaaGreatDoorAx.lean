/-
  span.Right and span.Cut, as the machine asks for them.
  One more span: what the runs say.
-/
import Derived.Test.YtkmocipdekogkaaGreatDoorAn
import Derived.Test.YtkmocipdekogkaaGreatDoorAh
set_option linter.all false
section
namespace Go.Proofs.YtkmocipdekogkaaGreatDoor
set_option linter.unusedVariables false
set_option linter.unusedSimpArgs false
open Go.RowKit

theorem rightC : RightC := by
  rintro vs w ⟨t, i, p, a, l, x, y, f, rfl, ⟨t1, t2⟩, ⟨i1, i2⟩, hp, ha, hl, ⟨x1, x2, x3⟩, ⟨y1, y2, y3⟩⟩
  exact right150 t i p a l x y f w t1 i1 (by simpa using ha) (by simpa using hl) x1 x2 x3 y1 y2 y3
theorem bts_row {w : World} {g : Nat} {row : Array Value} {ty : TypeId} {bs : List Nat} (h : w.heap[g]? = some (.cells row ty (0, 0))) (ht : row.toList.take bs.length = bs.map (fun b : Nat => Value.int .u8 b)) : Bts w g 0 (bs.map fun b : Nat => (b : Int)) := by
  intro j hj
  have hj' : j < bs.length := by simpa using hj
  have h1 : (row.toList.take bs.length)[j]? = (bs.map (fun b : Nat => Value.int .u8 b))[j]? := by rw [ht]
  rw [List.getElem?_take_of_lt hj', List.getElem?_map, List.getElem?_eq_getElem hj', Array.getElem?_toList] at h1
  rw [Nat.zero_add, cell_of_row w g j row ty (0, 0) h, h1, List.getD_eq_getElem?_getD, List.getElem?_map, List.getElem?_eq_getElem hj']
  rfl
theorem lt_of_heap {w : World} {g : Nat} {o : Obj} (h : w.heap[g]? = some o) : g < w.heap.size := by
  rcases Nat.lt_or_ge g w.heap.size with h' | h'
  · exact h'
  · simp [Array.getElem?_eq_none h'] at h
theorem cutC : CutC := by
  rintro vs bs g c row ty w ⟨t, i, p, a, l, x, y, f, rfl, ⟨t1, t2⟩, ⟨i1, i2⟩, hp, ha, hl, ⟨x1, x2, x3⟩, ⟨y1, y2, y3⟩⟩ hs hw ht hc
  have hb : bs = eightB t ++ eightB i ++ eightB p ++ eightB a ++ eightB l ++ [if f then 1 else 0] ++ (x.size :: x.data.toList.map UInt8.toNat) ++ (y.size :: y.data.toList.map UInt8.toNat) := (Option.some.inj hs).symm
  have e1 : (x.data.toList.map UInt8.toNat).map (fun b : Nat => (b : Int)) = strI x := by unfold strI; rw [List.map_map]; rfl
  have e2 : (y.data.toList.map UInt8.toNat).map (fun b : Nat => (b : Int)) = strI y := by unfold strI; rw [List.map_map]; rfl
  have B := bts_row hw ht
  have hlen : bs.length = 43 + x.size + y.size := by
    rw [hb]
    simp [eightB]
    omega
  rw [hb] at B
  simp only [List.map_append, List.map_cons, List.map_nil, e1, e2] at B
  have L8 : ∀ n, ((eightB n).map fun b : Nat => (b : Int)).length = 8 := fun n => rfl
  have b7 := B.right
  have B6 := B.left
  have b6 := B6.right
  have B5 := B6.left
  have b5 := B5.right
  have B4 := B5.left
  have b4 := B4.right
  have B3 := B4.left
  have b3 := B3.right
  have B2 := B3.left
  have b2 := B2.right
  have B1 := B2.left
  have b1 := B1.right
  have b0 := B1.left
  simp only [List.length_append, L8, List.length_cons, List.length_nil, strI_len, Nat.zero_add, Nat.reduceAdd] at b1 b2 b3 b4 b5 b6 b7
  have e7 : 41 + (x.size + 1) = 42 + x.size := by omega
  rw [e7] at b7
  have b5' : Bts w g 40 [((bif f then 1 else 0 : Nat) : Int)] := by
    have e5 : (if f then 1 else 0 : Nat) = (bif f then 1 else 0) := by cases f <;> rfl
    rw [e5] at b5; exact b5
  rw [hlen] at hc
  rw [hlen]
  exact cut100 t i p a l x y f g c _ w (lt_of_heap hw) rfl hc t1 t2 i1 i2 hp (by simpa using ha) (by simpa using hl) x1 x2 x3 y1 y2 y3 b0 b1 b2 b3 b4 b5' b6 b7
end Go.Proofs.YtkmocipdekogkaaGreatDoor
end
section
namespace Go.Proofs.YtkmocipdekogkaaGreatDoor
set_option linter.unusedVariables false
set_option linter.unusedSimpArgs false
set_option linter.unusedSectionVars false
open Go.RowKit

theorem hookT_ok {β : Type} (J : β → Prop) {fl : β} (hfl : ¬ J fl) {conj : β → β → β} (hconj : ∀ a b, J (conj a b) → J a ∧ J b) : HookOk J Tryz.prog (hookT fl conj) := by
  refine hooksW_ok (hookA_ok J hfl hconj) ?_
  intro p hp
  simp only [List.mem_cons, List.not_mem_nil, or_false] at hp
  rcases hp with rfl | rfl | rfl | rfl | rfl | rfl
  · exact ⟨(show (150 : Nat) ≠ YF by decide), right_ok J hfl rightC⟩
  · exact ⟨(show (100 : Nat) ≠ YF by decide), cut_ok J hfl cutC⟩
  · exact ⟨(show (173 : Nat) ≠ YF by decide), cat_ok J tabF_ok tabF_sub tabF_flat tabF_x hfl hconj (show (173 : Nat) ≠ YF by decide)⟩
  · exact ⟨(show (140 : Nat) ≠ YF by decide), clo_ok J tabF_ok tabF_sub tabF_flat tabF_x hfl hconj (show (140 : Nat) ≠ YF by decide)⟩
  · exact ⟨(show (254 : Nat) ≠ YF by decide), eval_ok J tabF_ok tabF_sub tabF_flat tabF_x hfl hconj (show (254 : Nat) ≠ YF by decide)⟩
  · exact ⟨(show (170 : Nat) ≠ YF by decide), const_ok J tabF_ok tabF_sub tabF_flat tabF_x hfl (show (170 : Nat) ≠ YF by decide) _ _⟩
theorem frcB_eq {γ : Type} (n : Nat) (k : Nat → γ) : frcB n k = k n := by cases n <;> rfl
theorem matchL_some {S s : Tr AO} : ∀ {n : Nat} {todo acc : List (Nat × Nat)} {k : List (Nat × Nat) → Bool}, matchL S s n todo acc k = true → ∃ π, k π = true
  | 0, todo, acc, k, h => ⟨acc, h⟩
  | n + 1, [], acc, k, h => ⟨acc, h⟩
  | n + 1, (a, b) :: r, acc, k, h => by
    have h' : (bif hasN a acc then matchL S s n r acc k else frcB a fun a => frcB b fun b => match S.get a, s.get b with
      | some o, some o' => matchL S s n (prO o o' r) ((a, b) :: acc) k
      | _, _ => matchL S s n r ((a, b) :: acc) k) = true := h
    rw [frcB_eq] at h'
    rw [frcB_eq] at h'
    cases hh : hasN a acc <;> rw [hh] at h' <;> simp only [cond_true, cond_false] at h'
    · split at h'
      · exact matchL_some h'
      · exact matchL_some h'
    · exact matchL_some h'
theorem syF_id : ∀ {D : List (Nat × Nat)} {c b c' b' : Nat}, syF (idR D) c b = some (c', b') → c' = c ∧ b' = b ∧ (c, b) ∈ D
  | [], c, b, c', b', h => by cases h
  | (x, y) :: r, c, b, c', b', h => by
    simp only [idR, syF] at h
    cases h1 : Nat.beq x c <;> rw [h1] at h <;> simp only [cond_true, cond_false] at h
    · obtain ⟨q1, q2, q3⟩ := syF_id h
      exact ⟨q1, q2, List.mem_cons_of_mem _ q3⟩
    · cases h2 : Nat.beq y b <;> rw [h2] at h <;> simp only [cond_true, cond_false] at h
      · obtain ⟨q1, q2, q3⟩ := syF_id h
        exact ⟨q1, q2, List.mem_cons_of_mem _ q3⟩
      · have e1 := Nat.eq_of_beq_eq_true h1
        have e2 := Nat.eq_of_beq_eq_true h2
        subst e1 e2
        cases h
        exact ⟨rfl, rfl, List.mem_cons_self ..⟩
open Classical in
/-- What is given from outside, but that alone which is named. -/
noncomputable def Env.cutTo (E : Env) (n : Nat) (f : Nat → Nat) (D : List (Nat × Nat)) (d : Nat) : Env := { at' := fun b => if b < n then E (f b) else none, val := fun c b => if (c, b) ∈ D then E.val c b else none, base := E.base + d }
theorem cutTo_val {E : Env} {n : Nat} {f : Nat → Nat} {D : List (Nat × Nat)} {d c b : Nat} (h : (c, b) ∈ D) : (E.cutTo n f D d).val c b = E.val c b := by simp only [Env.cutTo, if_pos h]
theorem cutTo_in {E : Env} {n : Nat} {f : Nat → Nat} {D : List (Nat × Nat)} {d c b : Nat} {v : Value} (h : (E.cutTo n f D d).val c b = some v) : (c, b) ∈ D ∧ E.val c b = some v := by
  unfold Env.cutTo at h
  simp only at h
  split at h
  · rename_i h1; exact ⟨h1, h⟩
  · cases h
theorem cutTo_facts {E : Env} (Fa : Facts E) {n : Nat} {f : Nat → Nat} {D : List (Nat × Nat)} {d : Nat} (hd : E.base + d ≤ baseMax) (h9 : ∀ b, (9, b) ∉ D) : Facts (E.cutTo n f D d) where
  cls := fun c b v h => Fa.cls c b v (cutTo_in h).2
  ord := fun c i j v v' h2 hij h7 hi hj => Fa.ord c i j v v' h2 hij h7 (cutTo_in hi).2 (cutTo_in hj).2
  ne := fun c i j v v' h2 hij h7 hi hj => Fa.ne c i j v v' h2 hij h7 (cutTo_in hi).2 (cutTo_in hj).2
  base := hd
  raw := fun b v h => absurd (cutTo_in h).1 (h9 b)
theorem cutTo_wk (E : Env) (n : Nat) (f : Nat → Nat) (D : List (Nat × Nat)) (d : Nat) : WkE d f (idR D) n E (E.cutTo n f D d) where
  at' := fun b hb => by show (if b < n then E (f b) else none) = _; rw [if_pos hb]
  out := fun b hb => by show (if b < n then E (f b) else none) = _; rw [if_neg (by omega)]
  base := rfl
  val := fun c b c' b' v h hv => by
    obtain ⟨h1, h2, h3⟩ := syF_id h
    subst h1 h2
    rw [cutTo_val h3]; exact hv
/-- Blocks that are not the state's. -/
def Apart (E : Env) (s : St) (K : Nat → Prop) : Prop := ∀ b o l, s.h.get b = some o → E b = some l → ¬ K l.g
theorem Apart.step {E E' : Env} {s s' : St} {w w' : World} {K : Nat → Prop} (h : Apart E s K) (S : Step E s w E' s' w') (hK : ∀ g, K g → g < w.heap.size) : Apart E' s' K ∧ ∀ g, K g → w'.heap[g]? = w.heap[g]? := by
  refine ⟨fun b o l hb hE hk => ?_, fun g hg => S.frame g (hK g hg) fun b o l hb hE he => h b o l hb hE (by rw [he]; exact hg)⟩
  rcases S.own b o l hb hE with h1 | ⟨c, o', l', hc, hE', he⟩
  · have := hK _ hk; omega
  · exact h c o' l' hc hE' (by rw [he]; exact hk)
theorem dom9 (σ : Sh) (b : Nat) : (9, b) ∉ σ.dom := by
  intro h
  unfold Sh.dom at h
  have key : ∀ c, (9, b) ∈ symsA (catA (σ.spans c)) → False := by
    intro c h
    unfold Sh.spans at h
    split at h
    · cases h
    · simp [catA, Sh.slot, spanA, symsA, Sh.key, Sh.ids] at h
      cases c <;> simp at h
    · simp [catA, Sh.slot, spanA, symsA, Sh.key, Sh.ids] at h
      cases c <;> simp at h
  split at h
  · cases h
  · exact key _ h
  · rcases List.mem_append.1 h with h | h
    · exact key _ h
    · exact key _ h
theorem do_ok {σ : Sh} {κ : Cs} {cs : List AV} {r : Nat} {σ' : Sh} (hs : stepS σ κ = some (cs, r, σ')) (hb : doB σ κ = true) {E : Env} {w : World} (R : Rel E ((shS σ).new (.enc 38 cs)) w) (F : Fresh E ((shS σ).new (.enc 38 cs)))
    {args' : List Value} (ha : Rls E [pP 2, opA] args') (hbase : E.base + 1 ≤ baseMax) {K : Nat → Prop} (hA : Apart E ((shS σ).new (.enc 38 cs)) K) (hK : ∀ g, K g → g < w.heap.size) :
    Calls Tryz.prog 12 args'.toArray w fun e w' => e = .returned (.int .i64 (r : Int)) ∧ (∃ E2, Rel E2 (shS σ') w' ∧ Fresh E2 (shS σ') ∧ (∀ c b v, E2.val c b = some v ↔ (c, b) ∈ σ'.dom ∧ E.val c b = some v) ∧ E2.base = E.base + 1 ∧ (∀ l, E 2 = some l → E2 2 = some l) ∧ Apart E2 (shS σ') K) ∧
      (∀ g, K g → w'.heap[g]? = w.heap[g]?) ∧ w.heap.size ≤ w'.heap.size ∧ w'.tape = w.tape ∧ w'.os = w.os ∧ w'.output = w.output := by
  unfold doB at hb
  rw [hs] at hb
  simp only at hb
  refine ((callF_ok JB tabF_ok tabF_sub tabF_flat tabF_x (fl := false) (conj := andB) (by simp) andB_ok (hookT_ok JB (by simp) andB_ok) 10000 100).1 12 _ _ _ E w args' (by decide) hb R F ha).mono fun e w' he => ?_
  obtain ⟨v, s', E', v', rfl, hj, S, R', F', hv⟩ := he
  have hj' : endB σ' r v s' = true := hj
  unfold endB at hj'
  obtain ⟨h1, h2⟩ := bif_and hj'
  obtain ⟨π, h3⟩ := matchL_some h2
  obtain ⟨h4, h5⟩ := bif_and h3
  have e2 := Nat.eq_of_beq_eq_true h4
  have := beqV_eq _ _ h1
  subst this
  cases hv
  have hbase' : E'.base = E.base := S.le.2.2
  have hval' : E'.val = E.val := S.le.2.1
  obtain ⟨k1, k2, k3⟩ := wk_rel (m := 38) (l := shL σ') h5 (cutTo_wk E' 38 (asN π) σ'.dom 1) (cutTo_facts R'.facts (by rw [hbase']; exact hbase) (dom9 σ')) R' F'
  obtain ⟨a1, a2⟩ := hA.step S hK
  refine ⟨rfl, ⟨_, k1, k2, fun c b v => ⟨fun h => ?_, fun h => ?_⟩, ?_, fun l hl => ?_, fun b o l hb hE hk => ?_⟩, a2, S.size, S.tape, S.os, S.output⟩
  · rw [← hval']; exact cutTo_in h
  · rw [cutTo_val h.1, hval']; exact h.2
  · show E'.base + 1 = _; rw [hbase']
  · show (if 2 < 38 then E' (asN π 2) else none) = some l
    rw [if_pos (by omega), e2]
    exact S.le.1 _ _ hl
  · obtain ⟨b', o', q1, q2⟩ := k3 b o l hb hE
    exact a1 b' o' l q1 q2 hk
end Go.Proofs.YtkmocipdekogkaaGreatDoor
end
