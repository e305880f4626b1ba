/-
  A state under other names, of blocks and of what is given from outside, of which less may be said.
  Bytes of which nothing is known but how many they may be: slices.Concat and slices.Clone; a policy's answer.
  Functions over spans that are given from outside, by contracts: span.Right, span.Cut; functions that yield one value in all their ways.
  A fleet of one collector and one replica, by what waits in its buffer: at most two traces of at most two spans.
-/
import Derived.Test.YtkmocipdekogkaaGreatDoorAq
import Derived.Below
set_option linter.all false
section
namespace Go.Proofs.YtkmocipdekogkaaGreatDoor
set_option linter.unusedVariables false
set_option linter.unusedSimpArgs false
set_option linter.unusedSectionVars false
noncomputable section

/-- Names of what is given from outside: the new one, the old one. -/
abbrev SyR := List ((Nat × Nat) × (Nat × Nat))
def syF : SyR → Nat → Nat → Option (Nat × Nat)
  | [], _, _ => none
  | p :: r, c, b => bif Nat.beq p.1.1 c then (bif Nat.beq p.1.2 b then some p.2 else syF r c b) else syF r c b
def syIs (ρ : SyR) (c b c' b' : Nat) : Bool := match syF ρ c b with | some (x, y) => bif Nat.beq x c' then Nat.beq y b' else false | none => false
mutual
/-- The first says no more than the second: f: the blocks' old names. d: by how much the base has grown. -/
def wkV (d : Nat) (f : Nat → Nat) (ρ : SyR) (n : Nat) : AV → AV → Bool
  | .bad, _ => true
  | .bool a, .bool b => a == b
  | .int j a, .int k b => bif kB j k then decide (a = b) else false
  | .str a, .str b => decide (a = b)
  | .nilp, .nilp => true
  | .ptr a b, .ptr c e => bif Nat.ble (Nat.add a 1) n then (bif Nat.beq (f a) c then Nat.beq b e else false) else false
  | .nils, .nils => true
  | .sl a b l c, .sl a' b' l' c' => bif Nat.ble (Nat.add a 1) n then (bif Nat.beq (f a) a' then (bif Nat.beq b b' then (bif Nat.beq l l' then Nat.beq c c' else false) else false) else false) else false
  | .slo a b l, .slo a' b' l' => bif Nat.ble (Nat.add a 1) n then (bif Nat.beq (f a) a' then (bif Nat.beq b b' then Nat.beq l l' else false) else false) else false
  | .slz, .slz => true
  | .nilm, .nilm => true
  | .mp a, .mp b => bif Nat.ble (Nat.add a 1) n then Nat.beq (f a) b else false
  | .fn (.func g) a c, .fn (.func h) a' c' => bif Nat.beq g h then (bif wkVs d f ρ n a a' then wkVs d f ρ n c c' else false) else false
  | .nilf, .nilf => true
  | .ifc t v, .ifc t' v' => bif Nat.beq t t' then wkV d f ρ n v v' else false
  | .nili, .nili => true
  | .agg l, .agg m => wkVs d f ρ n l m
  | .tup l, .tup m => wkVs d f ρ n l m
  | .sym c b, .sym c' b' => bif Nat.ble c 9 then syIs ρ c b c' b' else false
  | .anyi j, .anyi k => kB j k
  | .anyb, .anyb => true
  | .sl0, .sl0 => true
  | .upto false a, .upto false b => bif Nat.ble b a then Nat.ble a 1000000000000 else false
  | .slu _ _ _ _, .nils => true
  | .slu a z true m, .slu a' z' true m' => bif Nat.ble (Nat.add a 1) n then (bif Nat.beq (f a) a' then (bif Nat.beq z z' then Nat.ble m' (Nat.add m d) else false) else false) else false
  | .slu a z false m, .slu a' z' false m' => bif Nat.ble (Nat.add a 1) n then (bif Nat.beq (f a) a' then (bif Nat.beq z z' then Nat.ble m' m else false) else false) else false
  | _, _ => false
def wkVs (d : Nat) (f : Nat → Nat) (ρ : SyR) (n : Nat) : List AV → List AV → Bool
  | [], [] => true
  | a :: r, b :: q => bif wkV d f ρ n a b then wkVs d f ρ n r q else false
  | _, _ => false
end
theorem kB_eq {a b : IntKind} (h : kB a b = true) : a = b := of_decide_eq_true h
structure WkE (d : Nat) (f : Nat → Nat) (ρ : SyR) (n : Nat) (E E2 : Env) : Prop where
  at' : ∀ b, b < n → E2 b = E (f b)
  out : ∀ b, n ≤ b → E2 b = none
  base : E2.base = E.base + d
  val : ∀ c b c' b' v, syF ρ c b = some (c', b') → E.val c' b' = some v → E2.val c b = some v
section
variable {d : Nat} {f : Nat → Nat} {ρ : SyR} {n : Nat} {E E2 : Env}
theorem blt_of {a n : Nat} (h : Nat.ble (Nat.add a 1) n = true) : a < n := Nat.le_of_ble_eq_true h
mutual
theorem Rl.wk (h : WkE d f ρ n E E2) : ∀ {a : AV} {v : Value} {b : AV}, Rl E a v → wkV d f ρ n b a = true → Rl E2 b v
  | _, _, b, .bool x, q => by
    cases b <;> simp only [wkV, Bool.false_eq_true] at q
    · have := eq_of_beq q
      subst this
      exact .bool _
    · exact .bad _
  | _, _, b, .int k m, q => by
    cases b <;> simp only [wkV, Bool.false_eq_true] at q
    · obtain ⟨q1, q2⟩ := bif_and q
      have := kB_eq q1
      subst this
      have := of_decide_eq_true q2
      subst this
      exact .int _ _
    · exact .bad _
  | _, _, b, .str s, q => by
    cases b <;> simp only [wkV, Bool.false_eq_true] at q
    · have := of_decide_eq_true q
      subst this
      exact .str _
    · exact .bad _
  | _, _, b, .nilp, q => by
    cases b <;> simp only [wkV, Bool.false_eq_true] at q
    · exact .nilp
    · exact .bad _
  | _, _, b, .ptr off hE, q => by
    cases b <;> simp only [wkV, Bool.false_eq_true] at q
    · obtain ⟨q0, q⟩ := bif_and q
      obtain ⟨q1, q2⟩ := bif_and q
      have := Nat.eq_of_beq_eq_true q1
      subst this
      have := Nat.eq_of_beq_eq_true q2
      subst this
      exact .ptr _ ((h.at' _ (blt_of q0)).trans hE)
    · exact .bad _
  | _, _, b, .nils, q => by
    cases b <;> simp only [wkV, Bool.false_eq_true] at q
    · exact .nils
    · exact .bad _
    · exact .slue _ _ _ _ _
  | _, _, b, .sl off len cap hE hl, q => by
    cases b <;> simp only [wkV, Bool.false_eq_true] at q
    · obtain ⟨q0, q⟩ := bif_and q
      obtain ⟨q1, q⟩ := bif_and q
      obtain ⟨q2, q⟩ := bif_and q
      obtain ⟨q3, q4⟩ := bif_and q
      have := Nat.eq_of_beq_eq_true q1
      subst this
      have := Nat.eq_of_beq_eq_true q2
      subst this
      have := Nat.eq_of_beq_eq_true q3
      subst this
      have := Nat.eq_of_beq_eq_true q4
      subst this
      exact .sl _ _ _ ((h.at' _ (blt_of q0)).trans hE) hl
    · exact .bad _
  | _, _, b, .slo off len c hE hc hl, q => by
    cases b <;> simp only [wkV, Bool.false_eq_true] at q
    · obtain ⟨q0, q⟩ := bif_and q
      obtain ⟨q1, q⟩ := bif_and q
      obtain ⟨q2, q3⟩ := bif_and q
      have := Nat.eq_of_beq_eq_true q1
      subst this
      have := Nat.eq_of_beq_eq_true q2
      subst this
      have := Nat.eq_of_beq_eq_true q3
      subst this
      exact .slo _ _ c ((h.at' _ (blt_of q0)).trans hE) hc hl
    · exact .bad _
  | _, _, b, .slz a c, q => by
    cases b <;> simp only [wkV, Bool.false_eq_true] at q
    · exact .slz _ _
    · exact .bad _
  | _, _, b, .nilm, q => by
    cases b <;> simp only [wkV, Bool.false_eq_true] at q
    · exact .nilm
    · exact .bad _
  | _, _, b, .mp hE, q => by
    cases b <;> simp only [wkV, Bool.false_eq_true] at q
    · obtain ⟨q0, q1⟩ := bif_and q
      have := Nat.eq_of_beq_eq_true q1
      subst this
      exact .mp ((h.at' _ (blt_of q0)).trans hE)
    · exact .bad _
  | _, _, b, .fn g h1 h2, q => by
    cases b with
    | fn g' a c =>
      cases g' <;> cases g <;> simp only [wkV, Bool.false_eq_true] at q
      obtain ⟨q0, q⟩ := bif_and q
      obtain ⟨q1, q2⟩ := bif_and q
      have := Nat.eq_of_beq_eq_true q0
      subst this
      exact .fn _ (Rls.wk h h1 q1) (Rls.wk h h2 q2)
    | bad => exact .bad _
    | _ => cases g <;> simp only [wkV, Bool.false_eq_true] at q
  | _, _, b, .nilf, q => by
    cases b <;> simp only [wkV, Bool.false_eq_true] at q
    · exact .nilf
    · exact .bad _
  | _, _, b, .ifc t hv, q => by
    cases b <;> simp only [wkV, Bool.false_eq_true] at q
    · obtain ⟨q0, q1⟩ := bif_and q
      have := Nat.eq_of_beq_eq_true q0
      subst this
      exact .ifc _ (Rl.wk h hv q1)
    · exact .bad _
  | _, _, b, .nili, q => by
    cases b <;> simp only [wkV, Bool.false_eq_true] at q
    · exact .nili
    · exact .bad _
  | _, _, b, .agg hl, q => by
    cases b <;> simp only [wkV, Bool.false_eq_true] at q
    · exact .agg (Rls.wk h hl q)
    · exact .bad _
  | _, _, b, .tup hl, q => by
    cases b <;> simp only [wkV, Bool.false_eq_true] at q
    · exact .tup (Rls.wk h hl q)
    · exact .bad _
  | _, _, b, .any _, q => by
    cases b <;> simp only [wkV, Bool.false_eq_true] at q
    · exact .bad _
  | _, _, b, .bad _, q => by
    cases b <;> simp only [wkV, Bool.false_eq_true] at q
    · exact .bad _
  | _, _, b, .sym hv hc ho, q => by
    cases b <;> simp only [wkV, Bool.false_eq_true] at q
    · exact .bad _
    · obtain ⟨q0, q1⟩ := bif_and q
      unfold syIs at q1
      split at q1
      · rename_i x y hxy
        obtain ⟨q2, q3⟩ := bif_and q1
        have := Nat.eq_of_beq_eq_true q2
        subst this
        have := Nat.eq_of_beq_eq_true q3
        subst this
        exact .sym (h.val _ _ _ _ _ hxy hv) (Nat.le_of_ble_eq_true q0) ho
      · cases q1
  | _, _, b, .anyi hk, q => by
    cases b <;> simp only [wkV, Bool.false_eq_true] at q
    · exact .bad _
    · have := kB_eq q
      subst this
      exact .anyi hk
  | _, _, b, .anyb _, q => by
    cases b <;> simp only [wkV, Bool.false_eq_true] at q
    · exact .bad _
    · exact .anyb _
  | _, _, b, .upto (g := g) hm hn, q => by
    cases b with
    | upto g' a =>
      cases g' <;> cases g <;> simp only [wkV, Bool.false_eq_true] at q
      obtain ⟨q1, q2⟩ := bif_and q
      refine .upto (Nat.le_trans hm ?_) (Nat.le_of_ble_eq_true q2)
      exact Nat.le_of_ble_eq_true q1
    | bad => exact .bad _
    | _ => cases g <;> simp only [wkV, Bool.false_eq_true] at q
  | _, _, b, .slu (g := g) hE hm hc hn hv, q => by
    cases b with
    | slu a z g' m =>
      cases g' <;> cases g <;> simp only [wkV, Bool.false_eq_true] at q
      · obtain ⟨q0, q⟩ := bif_and q
        obtain ⟨q1, q⟩ := bif_and q
        obtain ⟨q2, q3⟩ := bif_and q
        have := Nat.eq_of_beq_eq_true q1
        subst this
        have := Nat.eq_of_beq_eq_true q2
        subst this
        exact .slu ((h.at' _ (blt_of q0)).trans hE) (Nat.le_trans hm (Nat.le_of_ble_eq_true q3)) hc hn hv
      · obtain ⟨q0, q⟩ := bif_and q
        obtain ⟨q1, q⟩ := bif_and q
        obtain ⟨q2, q3⟩ := bif_and q
        have := Nat.eq_of_beq_eq_true q1
        subst this
        have := Nat.eq_of_beq_eq_true q2
        subst this
        refine .slu ((h.at' _ (blt_of q0)).trans hE) (Nat.le_trans hm ?_) hc hn hv
        have h3 : _ ≤ m + d := Nat.le_of_ble_eq_true q3
        show _ + E.base ≤ m + E2.base
        rw [h.base]; omega
    | bad => exact .bad _
    | _ => cases g <;> simp only [wkV, Bool.false_eq_true] at q
  | _, _, b, .slue b' sz g m a, q => by
    cases b with
    | slu _ _ g' _ => exact .slue _ _ _ _ _
    | bad => exact .bad _
    | _ => cases g <;> simp only [wkV, Bool.false_eq_true] at q
  | _, _, b, .sl0 a, q => by
    cases b <;> simp only [wkV, Bool.false_eq_true] at q
    · exact .bad _
    · exact .sl0 _
  | _, _, b, .yld hE, q => by
    cases b <;> simp only [wkV, Bool.false_eq_true] at q
    · exact .bad _
theorem Rls.wk (h : WkE d f ρ n E E2) : ∀ {a : List AV} {v : List Value} {b : List AV}, Rls E a v → wkVs d f ρ n b a = true → Rls E2 b v
  | _, _, b, .nil, q => by
    cases b with
    | nil => exact .nil
    | cons x r => simp only [wkVs, Bool.false_eq_true] at q
  | _, _, b, .cons h1 h2, q => by
    cases b with
    | nil => simp only [wkVs, Bool.false_eq_true] at q
    | cons x r =>
      simp only [wkVs] at q
      obtain ⟨q1, q2⟩ := bif_and q
      exact .cons (Rl.wk h h1 q1) (Rls.wk h h2 q2)
end
def wkE (d : Nat) (f : Nat → Nat) (ρ : SyR) (n : Nat) : List (AV × AV × Nat) → List (AV × AV × Nat) → Bool
  | [], [] => true
  | (a, b, m) :: r, (a', b', m') :: q => bif wkV d f ρ n a a' then (bif wkV d f ρ n b b' then (bif Nat.beq m m' then wkE d f ρ n r q else false) else false) else false
  | _, _ => false
theorem Ents.wk (h : WkE d f ρ n E E2) : ∀ {es2 es : List (AV × AV × Nat)} {es' : List MapEntry}, wkE d f ρ n es2 es = true → Ents E es es' → Ents E2 es2 es'
  | es2, _, _, q, .nil => by
    cases es2 with
    | nil => exact .nil
    | cons x r => simp only [wkE, Bool.false_eq_true] at q
  | es2, _, _, q, .cons h1 h2 => by
    cases es2 with
    | nil => simp only [wkE, Bool.false_eq_true] at q
    | cons x r =>
      simp only [wkE] at q
      obtain ⟨q1, q⟩ := bif_and q
      obtain ⟨q2, q⟩ := bif_and q
      obtain ⟨q3, q4⟩ := bif_and q
      exact .cons ⟨h1.1.wk h q1, h1.2.1.wk h q2, h1.2.2.trans (Nat.eq_of_beq_eq_true q3).symm⟩ (Ents.wk h q4 h2)
def wkO (d : Nat) (f : Nat → Nat) (ρ : SyR) (n : Nat) : AO → AO → Bool
  | .row a z, .row b y => bif Nat.beq z y then (bif allOne a then wkVs d f ρ n a b else false) else false
  | .map a c, .map b e => bif Nat.beq c e then wkE d f ρ n a b else false
  | .junk u z, .junk v y => bif Nat.beq z y then u == v else false
  | _, _ => false
theorem ROk.wk (h : WkE d f ρ n E E2) {o2 o : AO} {l : Loc} {w : World} (q : wkO d f ρ n o2 o = true) (k : ROk E l w o) : ROk E2 l w o2 := by
  cases o with
  | row cs sz =>
    cases o2 <;> simp only [wkO, Bool.false_eq_true] at q
    obtain ⟨q1, q⟩ := bif_and q
    obtain ⟨q2, q3⟩ := bif_and q
    have := Nat.eq_of_beq_eq_true q1
    subst this
    obtain ⟨h1, h2, row, ty, pre, vs, post, h3, h4, h5, h6, h7⟩ := k
    exact ⟨h1, q2, row, ty, pre, vs, post, h3, h4, h5, h6.wk h q3, h7⟩
  | map es clock =>
    cases o2 <;> simp only [wkO, Bool.false_eq_true] at q
    obtain ⟨q1, q2⟩ := bif_and q
    have := Nat.eq_of_beq_eq_true q1
    subst this
    obtain ⟨es', h1, h2⟩ := k
    exact ⟨es', h1, h2.wk h q2⟩
  | junk u sz =>
    cases o2 <;> simp only [wkO, Bool.false_eq_true] at q
    obtain ⟨q1, q2⟩ := bif_and q
    have := Nat.eq_of_beq_eq_true q1
    subst this
    have := eq_of_beq q2
    subst this
    exact k
  | iter _ _ _ _ => cases o2 <;> simp only [wkO, Bool.false_eq_true] at q
  | sit _ _ => cases o2 <;> simp only [wkO, Bool.false_eq_true] at q
  | loop _ _ _ _ _ => cases o2 <;> simp only [wkO, Bool.false_eq_true] at q
  | enc _ _ => cases o2 <;> simp only [wkO, Bool.false_eq_true] at q
/-- The objects of the first stand in the second, under the names that f gives them; a row of which nothing is known may have no place there. -/
def wkL (d : Nat) (f : Nat → Nat) (ρ : SyR) (n : Nat) (S s : Tr AO) (nx : Nat) : List Nat → Bool
  | [] => true
  | b :: r => match S.get b, s.get (f b) with
    | some o, some o' => bif wkO d f ρ n o o' then wkL d f ρ n S s nx r else false
    | some _, none => bif Nat.ble nx (f b) then wkL d f ρ n S s nx r else false
    | _, _ => false
theorem wkL_ok {S s : Tr AO} {nx : Nat} : ∀ {l : List Nat}, wkL d f ρ n S s nx l = true → ∀ b ∈ l, ∀ o, S.get b = some o → (∃ o', s.get (f b) = some o' ∧ wkO d f ρ n o o' = true) ∨ nx ≤ f b
  | [], _, b, hb, o, ho => by cases hb
  | c :: r, h, b, hb, o, ho => by
    unfold wkL at h
    split at h
    · rename_i o1 o' h1 h2
      obtain ⟨k1, k2⟩ := bif_and h
      rcases List.mem_cons.1 hb with rfl | hb
      · rw [ho] at h1; cases h1
        exact .inl ⟨o', h2, k1⟩
      · exact wkL_ok k2 b hb o ho
    · rename_i o1 h1 h2
      obtain ⟨k1, k2⟩ := bif_and h
      rcases List.mem_cons.1 hb with rfl | hb
      · exact .inr (Nat.le_of_ble_eq_true k1)
      · exact wkL_ok k2 b hb o ho
    · cases h
def wkS (d : Nat) (f : Nat → Nat) (ρ : SyR) (ids : List Nat) (S s : St) : Bool := bif wkL d f ρ S.nx S.h s.h s.nx ids then nodupB (mapN f ids) else false
theorem wk_rel {m : Nat} {l : List (Nat × AO)} {s : St} {w : World} (h : wkS d f ρ (l.map (·.1)) (mkS m l) s = true) (W : WkE d f ρ m E E2) (Fa : Facts E2) (R : Rel E s w) (F : Fresh E s) :
    Rel E2 (mkS m l) w ∧ Fresh E2 (mkS m l) ∧ ∀ b o lb, (mkS m l).h.get b = some o → E2 b = some lb → ∃ b' o', s.h.get b' = some o' ∧ E b' = some lb := by
  obtain ⟨h1, h2⟩ := bif_and h
  have key : ∀ b o lb, (mkS m l).h.get b = some o → E2 b = some lb → b ∈ l.map (·.1) ∧ E (f b) = some lb ∧ ∃ o', s.h.get (f b) = some o' ∧ wkO d f ρ m o o' = true := by
    intro b o lb hb hE
    have hm := mkS_get m l b o hb
    have hlt : b < m := by
      rcases Nat.lt_or_ge b m with h | h
      · exact h
      · rw [W.out b h] at hE; cases hE
    rw [W.at' b hlt] at hE
    rcases wkL_ok h1 b hm o hb with h | h
    · exact ⟨hm, hE, h⟩
    · rw [F _ h] at hE; cases hE
  refine ⟨⟨fun b o lb hb hE => ?_, fun b c o o' lb lc hb hc hEb hEc hg => ?_, Fa⟩, fun c hc => W.out c hc, fun b o lb hb hE => ?_⟩
  · obtain ⟨_, k1, o', k2, k3⟩ := key b o lb hb hE
    exact (R.obj _ _ _ k2 k1).wk W k3
  · obtain ⟨m1, k1, p, k2, _⟩ := key b o lb hb hEb
    obtain ⟨m2, j1, q, j2, _⟩ := key c o' lc hc hEc
    exact nodup_map h2 b m1 c m2 (R.inj _ _ _ _ _ _ k2 j2 k1 j1 hg)
  · obtain ⟨_, k1, o', k2, _⟩ := key b o lb hb hE
    exact ⟨_, _, k2, k1⟩
end
/-! ### More is given from outside -/
structure VLe (E E' : Env) : Prop where
  at' : ∀ b, E' b = E b
  base : E'.base = E.base
  val : ∀ c b v, E.val c b = some v → E'.val c b = some v
mutual
theorem Rl.vmono {E E' : Env} (hE : VLe E E') : ∀ {a : AV} {v : Value}, Rl E a v → Rl E' a v
  | _, _, .bool b => .bool b
  | _, _, .int k n => .int k n
  | _, _, .str s => .str s
  | _, _, .nilp => .nilp
  | _, _, .ptr off h => .ptr off ((hE.at' _).trans h)
  | _, _, .nils => .nils
  | _, _, .sl off len cap h hl => .sl off len cap ((hE.at' _).trans h) hl
  | _, _, .slo off len c h hc hl => .slo off len c ((hE.at' _).trans h) hc hl
  | _, _, .slz a c => .slz a c
  | _, _, .nilm => .nilm
  | _, _, .mp h => .mp ((hE.at' _).trans h)
  | _, _, .fn f h k => .fn f (Rls.vmono hE h) (Rls.vmono hE k)
  | _, _, .nilf => .nilf
  | _, _, .ifc t h => .ifc t (Rl.vmono hE h)
  | _, _, .nili => .nili
  | _, _, .agg h => .agg (Rls.vmono hE h)
  | _, _, .tup h => .tup (Rls.vmono hE h)
  | _, _, .any h => .any h
  | _, _, .bad v => .bad v
  | _, _, .sym h hc ho => .sym (hE.val _ _ _ h) hc ho
  | _, _, .anyi h => .anyi h
  | _, _, .anyb b => .anyb b
  | _, _, .upto h hn => .upto (by unfold Env.ub at h ⊢; rw [hE.base]; exact h) hn
  | _, _, .slu h hm hc hn hv => .slu ((hE.at' _).trans h) (by unfold Env.ub at hm ⊢; rw [hE.base]; exact hm) hc hn hv
  | _, _, .slue b sz g n a => .slue b sz g n a
  | _, _, .sl0 a => .sl0 a
  | _, _, .yld h => .yld ((hE.at' _).trans h)
theorem Rls.vmono {E E' : Env} (hE : VLe E E') : ∀ {a : List AV} {v : List Value}, Rls E a v → Rls E' a v
  | _, _, .nil => .nil
  | _, _, .cons h k => .cons (Rl.vmono hE h) (Rls.vmono hE k)
end
theorem Ents.vmono {E E' : Env} (hE : VLe E E') : ∀ {a : List (AV × AV × Nat)} {e : List MapEntry}, Ents E a e → Ents E' a e
  | _, _, .nil => .nil
  | _, _, .cons h k => .cons ⟨h.1.vmono hE, h.2.1.vmono hE, h.2.2⟩ (Ents.vmono hE k)
theorem ROk.vmono {E E' : Env} (hE : VLe E E') {l : Loc} {w : World} {o : AO} (h : ROk E l w o) : ROk E' l w o := by
  cases o with
  | row cs sz => obtain ⟨h1, h2, row, ty, pre, vs, post, h3, h4, h5, h6, h7⟩ := h; exact ⟨h1, h2, row, ty, pre, vs, post, h3, h4, h5, h6.vmono hE, h7⟩
  | map es clock => obtain ⟨es', h1, h2⟩ := h; exact ⟨es', h1, h2.vmono hE⟩
  | iter m since seen last =>
    obtain ⟨h0, m', h1, h2⟩ := h
    refine ⟨h0, m', h1, ?_⟩
    cases m with
    | none => exact h2
    | some b => obtain ⟨lb, h3, h4⟩ := h2; exact ⟨lb, (hE.at' _).trans h3, h4⟩
  | sit s pos => exact h
  | junk u sz => exact h
  | loop A B ps nt t => obtain ⟨r, h1, h2, h3, h4, h5, h6, h7, h8⟩ := h; exact ⟨r, h1, h2, h3, h4, h5, h6, h7, fun p hp => (h8 p hp).vmono hE⟩
  | enc k cs => obtain ⟨row, ty, c, vs, bs, h1, h2, h3, h4⟩ := h; exact ⟨row, ty, c, vs, bs, h1, hE.val _ _ _ h2, h3.vmono hE, h4⟩
theorem Rel.vmono {E E' : Env} (hE : VLe E E') (Fa : Facts E') {s : St} {w : World} (R : Rel E s w) : Rel E' s w :=
  ⟨fun b o l hb h => (R.obj b o l hb ((hE.at' b).symm.trans h)).vmono hE, fun b c o o' l l' hb hc h1 h2 => R.inj b c o o' l l' hb hc ((hE.at' b).symm.trans h1) ((hE.at' c).symm.trans h2), Fa⟩
def Env.upd (E : Env) (c b : Nat) (v : Value) : Env := { at' := E.at', val := fun c' b' => if c' = c ∧ b' = b then some v else E.val c' b', base := E.base }
theorem upd_same (E : Env) (c b : Nat) (v : Value) : (E.upd c b v).val c b = some v := by simp [Env.upd]
theorem upd_other (E : Env) {c b c' b' : Nat} (v : Value) (h : ¬ (c' = c ∧ b' = b)) : (E.upd c b v).val c' b' = E.val c' b' := by simp only [Env.upd, if_neg h]
theorem upd_le {E : Env} {c b : Nat} (v : Value) (h : E.val c b = none) : VLe E (E.upd c b v) := ⟨fun _ => rfl, rfl, fun c' b' u hu => by
  by_cases hk : c' = c ∧ b' = b
  · rw [hk.1, hk.2, h] at hu; cases hu
  · rw [upd_other E v hk]; exact hu⟩
theorem facts_upd {E : Env} (Fa : Facts E) {c k : Nat} {v : Value} (hc : clsOk c v) (h9 : c = 9 → ∃ l, E k = some l)
    (ho : c ≤ 2 → ∀ b u, b ≠ k → E.val c b = some u → (b < k → k ≤ 7 → natV u < natV v) ∧ (k < b → b ≤ 7 → natV v < natV u) ∧ (b < k → k ≤ 15 → u ≠ v) ∧ (k < b → b ≤ 15 → v ≠ u)) : Facts (E.upd c k v) where
  cls := fun c' b' u hu => by
    by_cases hk : c' = c ∧ b' = k
    · rw [hk.1, hk.2, upd_same] at hu; cases hu; rw [hk.1]; exact hc
    · rw [upd_other E v hk] at hu; exact Fa.cls _ _ _ hu
  ord := fun c' i j u u' h2 hij h7 hi hj => by
    by_cases hk : c' = c ∧ i = k
    · obtain ⟨rfl, rfl⟩ := hk
      rw [upd_same] at hi; cases hi
      rw [upd_other E v (by omega)] at hj
      exact (ho h2 j u' (by omega) hj).2.1 hij h7
    · by_cases hk2 : c' = c ∧ j = k
      · obtain ⟨rfl, rfl⟩ := hk2
        rw [upd_same] at hj; cases hj
        rw [upd_other E v (by omega)] at hi
        exact (ho h2 i u (by omega) hi).1 hij h7
      · rw [upd_other E v hk] at hi
        rw [upd_other E v hk2] at hj
        exact Fa.ord c' i j u u' h2 hij h7 hi hj
  ne := fun c' i j u u' h2 hij h7 hi hj => by
    by_cases hk : c' = c ∧ i = k
    · obtain ⟨rfl, rfl⟩ := hk
      rw [upd_same] at hi; cases hi
      rw [upd_other E v (by omega)] at hj
      exact (ho h2 j u' (by omega) hj).2.2.2 hij h7
    · by_cases hk2 : c' = c ∧ j = k
      · obtain ⟨rfl, rfl⟩ := hk2
        rw [upd_same] at hj; cases hj
        rw [upd_other E v (by omega)] at hi
        exact (ho h2 i u (by omega) hi).2.2.1 hij h7
      · rw [upd_other E v hk] at hi
        rw [upd_other E v hk2] at hj
        exact Fa.ne c' i j u u' h2 hij h7 hi hj
  base := Fa.base
  raw := fun b u hb => by
    by_cases hk : 9 = c ∧ b = k
    · obtain ⟨rfl, rfl⟩ := hk; exact h9 rfl
    · rw [upd_other E v hk] at hb; exact Fa.raw b u hb
end
end Go.Proofs.YtkmocipdekogkaaGreatDoor
end
section
namespace Go.Proofs.YtkmocipdekogkaaGreatDoor
set_option linter.unusedVariables false
set_option linter.unusedSimpArgs false
set_option linter.unusedSectionVars false
noncomputable section

/-- How many bytes slices have together; is there one of which that is not known? -/
def sumU : List AV → Option (Bool × Nat × Bool)
  | [] => some (false, 0, false)
  | v :: r => match sumU r with
    | some (g, m, u) => match v with
      | .nils => some (g, m, u)
      | .slz => some (g, m, u)
      | .sl0 => some (g, m, u)
      | .sl _ _ n _ => some (g, Nat.add m n, u)
      | .slo _ _ n => some (g, Nat.add m n, u)
      | .slu _ 1 h n => bif (bif g then h else false) then none else some ((bif g then true else h), Nat.add m n, true)
      | _ => none
    | none => none
def refsS : List AV → List Nat
  | [] => []
  | .sl b _ _ _ :: r => b :: refsS r
  | .slo b _ _ :: r => b :: refsS r
  | .slu b _ _ _ :: r => b :: refsS r
  | _ :: r => refsS r
def okBytes (nx : Nat) (g : Bool) (m : Nat) (v : AV) (s' : St) : Bool := match v with
  | .nils => true
  | .sl0 => true
  | .slu b 1 g' m' => bif Nat.ble m' m then (bif (bif g' then g else true) then (bif Nat.ble nx b then (match s'.h.get b with | some (.junk true 1) => true | _ => false) else false) else false) else false
  | _ => false
section
variable {β : Type} (T : Tab) (fl : β) (conj : β → β → β)
def bytesH (f : Nat) (ids : List Nat) (g : Bool) (m : Nat) (args : List AV) (s : St) (k : AV → St → β) : β :=
  bif Nat.ble m 400000 then (bif beside T (fun _ => none) f args ids s (okBytes s.nx g m) then k (.slu s.nx 1 g m) (s.new (.junk true 1)) else fl) else fl
def plainH (f : Nat) (args : List AV) (s : St) (k : AV → St → β) : β := callF T fl conj (fun _ => none) 400 60 f args s k
def catH (f : Nat) (args : List AV) (s : St) (k : AV → St → β) : β := match args with
  | [.sl b 0 n c] => match s.rowAt b with
    | some (cs, _) => match sumU cs with
      | some (g, m, true) => bytesH T fl f (b :: refsS cs) g m args s k
      | _ => plainH T fl conj f args s k
    | none => fl
  | _ => fl
def cloH (f : Nat) (args : List AV) (s : St) (k : AV → St → β) : β := match args with
  | [.slu b 1 g m] => bytesH T fl f [b] g m args s k
  | _ => plainH T fl conj f args s k
def okTwo (v : AV) (_ : St) : Bool := match v with | .int .i64 (.ofNat n) => bif Nat.beq n 1 then true else Nat.beq n 2 | _ => false
def evalH (f : Nat) (args : List AV) (s : St) (k : AV → St → β) : β :=
  bif beside T (fun _ => none) f args (refsS args) s okTwo then conj (k (.int .i64 (.ofNat 1)) s) (k (.int .i64 (.ofNat 2)) s) else fl
end
theorem ub_le {E : Env} {g g' : Bool} {m m' : Nat} (h : m' ≤ m) (hg : (bif g' then g else true) = true) : E.ub g' m' ≤ E.ub g m := by
  unfold Env.ub
  cases g' <;> cases g <;> simp at hg ⊢ <;> omega
/-- A row that has no place. -/
theorem ahead_new {E : Env} {s : St} {w : World} (R : Rel E s w) (F : Fresh E s) (o : AO) : Rel E (s.new o) w ∧ Fresh E (s.new o) ∧ ∀ {E0 : Env} {s0 : St} {w0 : World}, Step E0 s0 w0 E s w → Step E0 s0 w0 E (s.new o) w := by
  have hget : ∀ c oc l, (s.new o).h.get c = some oc → E c = some l → s.h.get c = some oc := fun c oc l hc hE => by
    simp only [St.new, Tr.get_set] at hc
    by_cases h : c = s.nx
    · subst h; rw [F _ (Nat.le_refl _)] at hE; cases hE
    · rw [if_neg h] at hc; exact hc
  refine ⟨⟨fun b ob l hb hE => R.obj b ob l (hget b ob l hb hE) hE, fun b c ob oc l l' hb hc hE hE' => R.inj b c ob oc l l' (hget b ob l hb hE) (hget c oc l' hc hE') hE hE', R.facts⟩, fun c hc => F c (by have : (s.new o).nx = s.nx + 1 := rfl; omega), ?_⟩
  intro E0 s0 w0 K
  exact ⟨K.le, K.size, K.tape, K.os, K.output, K.frame, fun b ob l hb hE => K.own b ob l (hget b ob l hb hE) hE, by have := K.nx; show s0.nx ≤ s.nx + 1; omega, K.old⟩
section
variable {β : Type} (J : β → Prop) {P : Program} {T : Tab} (hT : TOk P T) (hS : SubOk T) (hF : FlatOk P T) (hX : XOk P T) {fl : β} (hfl : ¬ J fl)
include hT hS hF hX hfl
theorem bytesH_ok {f : Nat} (hne : f ≠ YF) {ids : List Nat} {g : Bool} {m : Nat} {args : List AV} {s : St} {k : AV → St → β} {E : Env} {w : World} {args' : List Value} (h : J (bytesH T fl f ids g m args s k)) (R : Rel E s w) (F : Fresh E s) (ha : Rls E args args') :
    Calls P f args'.toArray w fun e w' => ∃ v s' E' v', e = .returned v' ∧ J (k v s') ∧ Step E s w E' s' w' ∧ Rel E' s' w' ∧ Fresh E' s' ∧ Rl E' v v' := by
  unfold bytesH at h
  cases hm : Nat.ble m 400000 <;> rw [hm] at h <;> simp only [cond_true, cond_false] at h
  case false => exact absurd h hfl
  cases hb : beside T (fun _ => none) f args ids s (okBytes s.nx g m) <;> rw [hb] at h <;> simp only [cond_true, cond_false] at h
  case false => exact absurd h hfl
  refine (beside_ok hT hS hF hX hne (hook_none _ P) hb R F ha).mono fun e w' he => ?_
  obtain ⟨v, s', E', v', rfl, hok, hs, S', R', F', hv⟩ := he
  have emp : ∀ a : Option Addr, v' = .slice a 0 0 → ∃ v s' E' v'', Ending.returned v' = .returned v'' ∧ J (k v s') ∧ Step E s w E' s' w' ∧ Rel E' s' w' ∧ Fresh E' s' ∧ Rl E' v v'' := by
    rintro a rfl
    obtain ⟨k1, k2, k3⟩ := merge_none R F S' R' hs
    obtain ⟨q1, q2, q3⟩ := ahead_new k1 k2 (.junk true 1)
    exact ⟨_, _, _, _, rfl, h, q3 k3, q1, q2, .slue _ _ _ _ a⟩
  unfold okBytes at hok
  split at hok
  · cases hv; exact emp none rfl
  · cases hv with
    | sl0 a => exact emp a rfl
  · rename_i b g' m'
    obtain ⟨o1, hok⟩ := bif_and hok
    obtain ⟨o2, hok⟩ := bif_and hok
    obtain ⟨o3, hok⟩ := bif_and hok
    split at hok
    · rename_i hget
      cases hv with
      | slue _ _ _ _ a => exact emp a rfl
      | slu hE hmm hc hn hv =>
        rename_i n c l
        obtain ⟨k1, k2, k3, k4⟩ := merge_one R F S' R' hs hget hE (Nat.le_of_ble_eq_true o3) rfl
        refine ⟨_, _, _, _, rfl, h, k3, k1, k2, .slu k4 ?_ hc hn hv⟩
        exact Nat.le_trans hmm (ub_le (E := E') (Nat.le_of_ble_eq_true o1) o2)
    · cases hok
  · cases hok
theorem plain_ok {conj : β → β → β} (hconj : ∀ a b, J (conj a b) → J a ∧ J b) {f : Nat} (hne : f ≠ YF) : HookAt J P f (plainH T fl conj f) := by
  intro args s k E w args' h R F ha
  exact (callF_ok J hT hS hF hX hfl hconj (hook_none J P) 400 60).1 f args s k E w args' hne h R F ha
theorem cat_ok {conj : β → β → β} (hconj : ∀ a b, J (conj a b) → J a ∧ J b) {f : Nat} (hne : f ≠ YF) : HookAt J P f (catH T fl conj f) := by
  intro args s k E w args' h R F ha
  unfold catH at h
  split at h
  · split at h
    · split at h
      · exact bytesH_ok J hT hS hF hX hfl hne h R F ha
      · exact plain_ok J hT hS hF hX hfl hconj hne _ s k E w args' h R F ha
    · exact absurd h hfl
  · exact absurd h hfl
theorem clo_ok {conj : β → β → β} (hconj : ∀ a b, J (conj a b) → J a ∧ J b) {f : Nat} (hne : f ≠ YF) : HookAt J P f (cloH T fl conj f) := by
  intro args s k E w args' h R F ha
  unfold cloH at h
  split at h
  · exact bytesH_ok J hT hS hF hX hfl hne h R F ha
  · exact plain_ok J hT hS hF hX hfl hconj hne _ s k E w args' h R F ha
theorem eval_ok {conj : β → β → β} (hconj : ∀ a b, J (conj a b) → J a ∧ J b) {f : Nat} (hne : f ≠ YF) : HookAt J P f (evalH T fl conj f) := by
  intro args s k E w args' h R F ha
  unfold evalH at h
  cases hb : beside T (fun _ => none) f args (refsS args) s okTwo <;> rw [hb] at h <;> simp only [cond_true, cond_false] at h
  case false => exact absurd h hfl
  obtain ⟨j1, j2⟩ := hconj _ _ h
  refine (beside_ok hT hS hF hX hne (hook_none _ P) hb R F ha).mono fun e w' he => ?_
  obtain ⟨v, s', E', v', rfl, hok, hs, S', R', F', hv⟩ := he
  obtain ⟨k1, k2, k3⟩ := merge_none R F S' R' hs
  unfold okTwo at hok
  split at hok
  · rename_i n
    cases hv
    cases h1 : Nat.beq n 1 <;> rw [h1] at hok <;> simp only [cond_true, cond_false] at hok
    · have := Nat.eq_of_beq_eq_true hok
      subst this
      exact ⟨_, _, _, _, rfl, j2, k3, k1, k2, .int _ _⟩
    · have := Nat.eq_of_beq_eq_true h1
      subst this
      exact ⟨_, _, _, _, rfl, j1, k3, k1, k2, .int _ _⟩
  · cases hok
end
end
end Go.Proofs.YtkmocipdekogkaaGreatDoor
end
section
namespace Go.Proofs.YtkmocipdekogkaaGreatDoor
set_option linter.unusedVariables false
set_option linter.unusedSimpArgs false
set_option linter.unusedSectionVars false
open Go.RowKit
noncomputable section

/-- Is it a span that is given from outside, and right? -/
def goodCs : List AV → Bool
  | [.sym a _, .sym b _, .sym 4 _, .sym 3 _, .sym 3 _, .sym 5 _, .sym 5 _, .sym 6 _] => bif Nat.ble a 2 then Nat.ble b 2 else false
  | _ => false
def NameOk (u : ByteArray) : Prop := 1 ≤ u.size ∧ u.size ≤ 32 ∧ nameLoop u 33 0 = true
def GoodVs (vs : List Value) : Prop := ∃ (t i p a l : Nat) (x y : ByteArray) (f : Bool), vs = [.int .u64 t, .int .u64 i, .int .u64 p, .int .u64 a, .int .u64 l, .string x, .string y, .bool f] ∧
  (0 < t ∧ t < 2 ^ 64) ∧ (0 < i ∧ i < 2 ^ 64) ∧ p < 2 ^ 64 ∧ a ≤ 2 ^ 40 ∧ l ≤ 2 ^ 40 ∧ NameOk x ∧ NameOk y
theorem good_vs {E : Env} (Fa : Facts E) {cs : List AV} {vs : List Value} (h : goodCs cs = true) (hr : Rls E cs vs) : GoodVs vs := by
  unfold goodCs at h
  split at h
  · rename_i c0 b0 c1 b1 b2 b3 b4 b5 b6 b7
    obtain ⟨h0, h1⟩ := bif_and h
    have h0' := Nat.le_of_ble_eq_true h0
    have h1' := Nat.le_of_ble_eq_true h1
    cases hr with
    | cons r0 hr => cases hr with
      | cons r1 hr => cases hr with
        | cons r2 hr => cases hr with
          | cons r3 hr => cases hr with
            | cons r4 hr => cases hr with
              | cons r5 hr => cases hr with
                | cons r6 hr => cases hr with
                  | cons r7 hr =>
                    cases hr
                    cases r0 with | sym v0 _ _ =>
                    cases r1 with | sym v1 _ _ =>
                    cases r2 with | sym v2 _ _ =>
                    cases r3 with | sym v3 _ _ =>
                    cases r4 with | sym v4 _ _ =>
                    cases r5 with | sym v5 _ _ =>
                    cases r6 with | sym v6 _ _ =>
                    cases r7 with | sym v7 _ _ =>
                    obtain ⟨t, rfl, t1, t2⟩ := (Fa.cls _ _ _ v0).1 h0'
                    obtain ⟨i, rfl, i1, i2⟩ := (Fa.cls _ _ _ v1).1 h1'
                    obtain ⟨p, rfl, p1⟩ := (Fa.cls _ _ _ v2).2.2.1 rfl
                    obtain ⟨a, rfl, a1⟩ := (Fa.cls _ _ _ v3).2.1 rfl
                    obtain ⟨l, rfl, l1⟩ := (Fa.cls _ _ _ v4).2.1 rfl
                    obtain ⟨x, rfl, x1⟩ := (Fa.cls _ _ _ v5).2.2.2.1 rfl
                    obtain ⟨y, rfl, y1⟩ := (Fa.cls _ _ _ v6).2.2.2.1 rfl
                    obtain ⟨f, rfl⟩ := (Fa.cls _ _ _ v7).2.2.2.2 rfl
                    exact ⟨t, i, p, a, l, x, y, f, rfl, ⟨t1, t2⟩, ⟨i1, i2⟩, p1, a1, l1, x1, y1⟩
  · cases h
/-- What is asked of span.Right and span.Cut. -/
def RightC : Prop := ∀ (vs : List Value) (w : World), GoodVs vs → Calls Tryz.prog 150 #[.agg vs.toArray] w fun e w' => e = .returned (.int .i64 0) ∧ Below w.heap.size w w'
def CutC : Prop := ∀ (vs : List Value) (bs : List Nat) (g c : Nat) (row : Array Value) (ty : TypeId) (w : World), GoodVs vs → spanB vs = some bs → w.heap[g]? = some (.cells row ty (0, 0)) → row.toList.take bs.length = bs.map (fun b : Nat => Value.int .u8 b) → bs.length ≤ c →
  Calls Tryz.prog 100 #[.slice (some ⟨g, 0, none⟩) bs.length c] w fun e w' => (∃ a n, e = .returned (.tuple #[.agg vs.toArray, .slice (some a) 0 n, .int .i64 0])) ∧ Below w.heap.size w w'
section
variable {β : Type} (fl : β)
def rightH (args : List AV) (s : St) (k : AV → St → β) : β := match args with
  | [.agg cs] => bif goodCs cs then k (.int .i64 (.ofNat 0)) s else fl
  | _ => fl
def cutH (args : List AV) (s : St) (k : AV → St → β) : β := match args with
  | [.sym 9 b] => (match s.h.get b with
    | some (.enc j cs) => bif Nat.beq j b then (bif goodCs cs then k (.tup [.agg cs, .slz, .int .i64 (.ofNat 0)]) s else fl) else fl
    | _ => fl)
  | _ => fl
/-- A function that yields one value in all its ways, by some objects. -/
def constH (T : Tab) (f : Nat) (V : AV) (ids : List AV → List Nat) (args : List AV) (s : St) (k : AV → St → β) : β :=
  bif beside T (fun _ => none) f args (ids args) s (fun v _ => bif beqV v V then lowV 0 V else false) then k V s else fl
end
section
variable {β : Type} (J : β → Prop) {fl : β} (hfl : ¬ J fl)
theorem below_rel {E : Env} {s : St} {w w' : World} (R : Rel E s w) (h : Below w.heap.size w w') : Rel E s w' := R.more h.block
theorem below_step {E : Env} {s : St} {w w' : World} (h : Below w.heap.size w w') : Step E s w E s w' := Step.more h.block h.size h.tape h.os h.output
include hfl
theorem right_ok (C : RightC) : HookAt J Tryz.prog 150 (rightH fl) := by
  intro args s k E w args' h R F ha
  unfold rightH at h
  split at h
  · rename_i cs
    cases hg : goodCs cs <;> rw [hg] at h <;> simp only [cond_true, cond_false] at h
    case false => exact absurd h hfl
    cases ha with
    | cons h1 ha =>
      cases ha
      cases h1 with
      | agg hl =>
        refine (C _ w (good_vs R.facts hg hl)).mono fun e w' ⟨he, hw⟩ => ?_
        exact ⟨_, s, E, _, he, h, below_step hw, below_rel R hw, F, .int _ _⟩
  · exact absurd h hfl
theorem cut_ok (C : CutC) : HookAt J Tryz.prog 100 (cutH fl) := by
  intro args s k E w args' h R F ha
  unfold cutH at h
  split at h
  · rename_i b
    split at h
    · rename_i j cs hget
      cases hj : Nat.beq j b <;> rw [hj] at h <;> simp only [cond_true, cond_false] at h
      case false => exact absurd h hfl
      have := Nat.eq_of_beq_eq_true hj
      subst this
      cases hg : goodCs cs <;> rw [hg] at h <;> simp only [cond_true, cond_false] at h
      case false => exact absurd h hfl
      cases ha with
      | cons h1 ha =>
        cases ha
        cases h1 with
        | sym hv hc ho =>
          obtain ⟨l, hE⟩ := R.facts.raw _ _ hv
          obtain ⟨row, ty, c, vs, bs, k1, k2, k3, k4, k5, k6⟩ := R.obj _ _ _ hget hE
          rw [hv] at k2
          cases k2
          refine (C vs bs l.g c row ty w (good_vs R.facts hg k3) k4 k1 k6 k5).mono fun e w' ⟨⟨a, n, he⟩, hw⟩ => ?_
          exact ⟨_, s, E, _, he, h, below_step hw, below_rel R hw, F, .tup (.cons (.agg k3) (.cons (.slz a n) (.cons (.int _ _) .nil)))⟩
    · exact absurd h hfl
  · exact absurd h hfl
end
/-- Values that name no block: they say the same whatever the blocks are. -/
theorem Rl.flat {E E' : Env} (hv : E'.val = E.val) (hb : E'.base = E.base) : ∀ {a : AV} {v : Value}, Rl E a v → lowV 0 a = true → Rl E' a v
  | a, v, h, l => h.agree (n := 0) (fun b hb => absurd hb (Nat.not_lt_zero b)) hv hb l
section
variable {β : Type} (J : β → Prop) {P : Program} {T : Tab} (hT : TOk P T) (hS : SubOk T) (hF : FlatOk P T) (hX : XOk P T) {fl : β} (hfl : ¬ J fl)
include hT hS hF hX hfl
theorem const_ok {f : Nat} (hne : f ≠ YF) (V : AV) (ids : List AV → List Nat) : HookAt J P f (constH fl T f V ids) := by
  intro args s k E w args' h R F ha
  unfold constH at h
  cases hb : beside T (fun _ => none) f args (ids args) s (fun v _ => bif beqV v V then lowV 0 V else false) <;> rw [hb] at h <;> simp only [cond_true, cond_false] at h
  case false => exact absurd h hfl
  refine (beside_ok hT hS hF hX hne (hook_none _ P) hb R F ha).mono fun e w' he => ?_
  obtain ⟨v, s', E', v', rfl, hok, hs, S', R', F', hv⟩ := he
  obtain ⟨k1, k2, k3⟩ := merge_none R F S' R' hs
  obtain ⟨o1, o2⟩ := bif_and hok
  have := beqV_eq _ _ o1
  subst this
  exact ⟨_, _, E'.back s.nx none, _, rfl, h, k3, k1, k2, Rl.flat (E := E') (E' := E'.back s.nx none) rfl rfl hv o2⟩
end
end
end Go.Proofs.YtkmocipdekogkaaGreatDoor
end
section
namespace Go.Proofs.YtkmocipdekogkaaGreatDoor
set_option linter.unusedVariables false
noncomputable section

/-- What waits: how many traces; is the second one's number greater?; of each how many spans, and were there too many? -/
structure Sh where
  t : Nat
  lt : Bool
  a : Nat × Bool
  b : Nat × Bool
deriving DecidableEq
def Sh.key (σ : Sh) (second : Bool) : AV := .sym 0 (bif second then (bif σ.lt then 3 else 1) else 2)
/-- A span's cells: its trace, its number, its place. -/
def spanA (tr id : AV) (j : Nat) : List AV := [tr, id, .sym 4 j, .sym 3 (2 * j), .sym 3 (2 * j + 1), .sym 5 (2 * j), .sym 5 (2 * j + 1), .sym 6 j]
def Sh.ids (second : Bool) (m : Nat) : AV := .sym (bif second then 2 else 1) (8 + m)
def Sh.slot (σ : Sh) (second : Bool) (m : Nat) : List AV := spanA (σ.key second) (Sh.ids second m) ((bif second then 2 else 0) + m)
def Sh.spans (σ : Sh) (second : Bool) : List (List AV) := match (bif second then σ.b else σ.a).1 with
  | 0 => []
  | 1 => [σ.slot second 0]
  | _ => [σ.slot second 0, σ.slot second 1]
def sStr : AV := sS [107, 101, 101, 112, 32, 102, 97, 105, 108, 10, 107, 101, 101, 112, 32, 115, 108, 111, 119, 32, 53, 48]
def baseL : List (Nat × AO) := [(0, .map [((nU 1), (pP 15), 0)] 1), (1, .map [((nU 101), (pP 5), 0), ((nU 200), (pP 11), 1)] 2),
  (2, oR 18 [(nI 1), (nI 1), (nI 3), (nU 3), (nU 12), (nU 6), (nU 3), (nI 2), (nI 2), (nI 16), sStr, (nI 1048576), (nI 4096), (.mp 0), (.mp 1), .nils, (.slu 29 16 true 0), (nU 0)]),
  (3, .map [] 0), (4, oR 5 [(nI 1048576), (.mp 3), (nI 0), fF, fF]), (5, oR 4 [(pP 8), .nilp, (pP 4), .nils]), (6, oR 3 [(pP 4), (nI 4096), .nils]), (7, .map [] 0), (8, oR 4 [(pP 4), (pP 6), (.mp 7), fF]),
  (9, .map [] 0), (10, oR 5 [(nI 1048576), (.mp 9), (nI 0), fF, fF]), (11, oR 4 [.nilp, (pP 14), (pP 10), .nils]), (12, oR 3 [(pP 10), (nI 4096), .nils]), (13, .map [] 0), (14, oR 4 [(pP 10), (pP 12), (.mp 13), fF]),
  (15, oR 2 [(pP 19), (nU 1)]), (16, .map [] 0), (17, .map [] 0), (18, .map [] 0),
  (19, oR 28 [(nU 1), (nU 1), (.slo 20 0 1), (nU 200), (nI 3), (nU 3), (nU 12), (nU 6), (nU 3), (nI 2), (nI 2), (nI 16), sStr, (.slo 21 0 2), (pP 23), (pP 25), (pP 27), (.mp 16), (.mp 17), (.mp 18), (nU 0), (nU 0), (nU 0), (nU 0), .nils, .nils, (nU 0), (nU 0)]),
  (20, oR 1 [(nU 101)]), (21, oR 4 [tT, (sS [102, 97, 105, 108]), (nU 0), (sS []), tT, (sS [115, 108, 111, 119]), (nU 50), (sS [])]),
  (22, .map [] 0), (23, oR 8 [(nU 1), (nU 3), (nU 12), (nU 0), (nU 0), fF, (.slo 28 0 1), (.mp 22)]),
  (26, .map [] 0), (27, oR 67 (rp 64 (nU 0) ++ [(nI 0), (nI 16), (.mp 26)])), (28, oR 3 [(nU 1), (nU 1), (nI 0)]), (29, .junk false 16)]
def catA : List (List AV) → List AV | [] => [] | l :: r => l ++ catA r
def trL (σ : Sh) (second : Bool) (n : Nat) (place : Nat) : List (Nat × AO) :=
  [(n, oR 2 [.slo (n + 2) 0 (bif second then σ.b else σ.a).1, .bool (bif second then σ.b else σ.a).2]), (n + 1, oR 3 [σ.key second, nU 6, nI place]), (n + 2, oR 8 (catA (σ.spans second)))]
def bufL (σ : Sh) : List (Nat × AO) := match σ.t with
  | 0 => [(24, .map [] 0), (25, oR 6 [.nils, .nilm, (nI 2), (nI 2), (nU 6), (.mp 24)])]
  | 1 => [(24, .map [(σ.key false, pP 30, 0)] 1), (25, oR 6 [.slo 37 0 1, .mp 36, (nI 2), (nI 2), (nU 6), (.mp 24)]), (36, .map [(σ.key false, pP 31, 0)] 1), (37, oR 1 [pP 31])] ++ trL σ false 30 0
  | _ => [(24, .map [(σ.key false, pP 30, 0), (σ.key true, pP 33, 1)] 2), (25, oR 6 [.slo 37 0 2, .mp 36, (nI 2), (nI 2), (nU 6), (.mp 24)]), (36, .map [(σ.key false, pP 31, 0), (σ.key true, pP 34, 1)] 2),
     (37, oR 1 (bif σ.lt then [pP 31, pP 34] else [pP 34, pP 31]))] ++ trL σ false 30 (bif σ.lt then 0 else 1) ++ trL σ true 33 (bif σ.lt then 1 else 0)
def shL (σ : Sh) : List (Nat × AO) := baseL ++ bufL σ
def shS (σ : Sh) : St := mkS 38 (shL σ)
/-! ### One more span -/
inductive Cs where
  | gt | less | third
  | dup (second : Bool) (m : Nat)
  | add (second : Bool)
/-- The span's cells; what is answered; what waits then. -/
def stepS (σ : Sh) : Cs → Option (List AV × Nat × Sh)
  | .gt => match σ.t with
    | 0 => some (spanA (.sym 0 2) (.sym 1 8) 0, 0, ⟨1, true, (1, false), (0, false)⟩)
    | 1 => some (spanA (.sym 0 3) (.sym 2 8) 2, 0, ⟨2, true, σ.a, (1, false)⟩)
    | _ => none
  | .less => match σ.t with
    | 1 => some (spanA (.sym 0 1) (.sym 2 8) 2, 0, ⟨2, false, σ.a, (1, false)⟩)
    | _ => none
  | .third => match σ.t with
    | 2 => some (spanA (.sym 0 15) (.sym 1 16) 9, 8, σ)
    | _ => none
  | .dup c m => some (spanA (σ.key c) (Sh.ids c m) 9, 0, σ)
  | .add false => match σ.a.1 with
    | 1 => some (spanA (σ.key false) (Sh.ids false 1) 1, 0, { σ with a := (2, false) })
    | _ => some (spanA (σ.key false) (Sh.ids false 2) 9, 8, { σ with a := (2, true) })
  | .add true => match σ.b.1 with
    | 1 => some (spanA (σ.key true) (Sh.ids true 1) 3, 0, { σ with b := (2, false) })
    | _ => some (spanA (σ.key true) (Sh.ids true 2) 9, 8, { σ with b := (2, true) })
def casesT (c : Bool) (n : Nat) : List Cs := match n with
  | 1 => [.dup c 0, .add c]
  | _ => [.dup c 0, .dup c 1, .add c]
def casesOf (σ : Sh) : List Cs := match σ.t with
  | 0 => [.gt]
  | 1 => [.gt, .less] ++ casesT false σ.a.1
  | _ => [.third] ++ casesT false σ.a.1 ++ casesT true σ.b.1
/-! ### A state's names, found -/
def frcB {γ : Type} (n : Nat) (k : Nat → γ) : γ := Nat.rec (k 0) (fun m _ => k (Nat.add m 1)) n
mutual
def prV : AV → AV → List (Nat × Nat) → List (Nat × Nat)
  | .ptr a _, .ptr b _, l => (a, b) :: l
  | .sl a _ _ _, .sl b _ _ _, l => (a, b) :: l
  | .slo a _ _, .slo b _ _, l => (a, b) :: l
  | .slu a _ _ _, .slu b _ _ _, l => (a, b) :: l
  | .mp a, .mp b, l => (a, b) :: l
  | .ifc _ v, .ifc _ u, l => prV v u l
  | .agg v, .agg u, l => prVs v u l
  | .tup v, .tup u, l => prVs v u l
  | _, _, l => l
def prVs : List AV → List AV → List (Nat × Nat) → List (Nat × Nat)
  | a :: r, b :: q, l => prV a b (prVs r q l)
  | _, _, l => l
end
def prE : List (AV × AV × Nat) → List (AV × AV × Nat) → List (Nat × Nat) → List (Nat × Nat)
  | (a, b, _) :: r, (c, d, _) :: q, l => prV a c (prV b d (prE r q l))
  | _, _, l => l
def prO : AO → AO → List (Nat × Nat) → List (Nat × Nat)
  | .row a _, .row b _, l => prVs a b l
  | .map a _, .map b _, l => prE a b l
  | _, _, l => l
def hasN (a : Nat) : List (Nat × Nat) → Bool
  | [] => false
  | p :: r => bif Nat.beq p.1 a then true else hasN a r
def matchL {γ : Type} (S s : Tr AO) (n : Nat) : List (Nat × Nat) → List (Nat × Nat) → (List (Nat × Nat) → γ) → γ :=
  Nat.rec (fun _ acc k => k acc) (fun _ ih todo acc k => match todo with
    | [] => k acc
    | (a, b) :: r => bif hasN a acc then ih r acc k else frcB a fun a => frcB b fun b => match S.get a, s.get b with
      | some o, some o' => ih (prO o o' r) ((a, b) :: acc) k
      | _, _ => ih r ((a, b) :: acc) k) n
def asN : List (Nat × Nat) → Nat → Nat
  | [], b => Nat.add 1000000 b
  | (x, y) :: r, b => bif Nat.beq x b then y else asN r b
/-! ### The runs -/
/-- The objects behind a slice. -/
def sliceIds : List AV → List Nat
  | [] => []
  | .slo b _ _ :: r => b :: sliceIds r
  | .sl b _ _ _ :: r => b :: sliceIds r
  | _ :: r => sliceIds r
def hookT {β : Type} (fl : β) (conj : β → β → β) : Nat → Option (List AV → St → (AV → St → β) → β) :=
  hooksW [(150, rightH fl), (100, cutH fl), (173, catH tabF fl conj 173), (140, cloH tabF fl conj 140), (254, evalH tabF fl conj 254), (170, constH fl tabF 170 (nU 1) sliceIds)] (hookA fl conj)
def rawA : AV := .sym 9 38
def opA : AV := .agg [nI 1, nU 1, nI 0, nU 0, rawA, .nils]
def idR : List (Nat × Nat) → SyR | [] => [] | p :: r => (p, p) :: idR r
/-- What is given from outside and named in a state. -/
def symsA : List AV → List (Nat × Nat)
  | [] => []
  | .sym c b :: r => (c, b) :: symsA r
  | _ :: r => symsA r
def Sh.dom (σ : Sh) : List (Nat × Nat) := match σ.t with
  | 0 => []
  | 1 => symsA (catA (σ.spans false))
  | _ => symsA (catA (σ.spans false)) ++ symsA (catA (σ.spans true))
def endB (σ : Sh) (r : Nat) (v : AV) (s : St) : Bool :=
  bif beqV v (nI r) then matchL (shS σ).h s.h 400 [(2, 2)] [] (fun π => bif Nat.beq (asN π 2) 2 then wkS 1 (asN π) (idR σ.dom) ((shL σ).map (·.1)) (shS σ) s else false) else false
def doB (σ : Sh) (κ : Cs) : Bool := match stepS σ κ with
  | some (cs, r, σ') => callF tabF false andB (hookT false andB) 10000 100 12 [pP 2, opA] ((shS σ).new (.enc 38 cs)) (endB σ' r)
  | none => true
end
end Go.Proofs.YtkmocipdekogkaaGreatDoor
end
