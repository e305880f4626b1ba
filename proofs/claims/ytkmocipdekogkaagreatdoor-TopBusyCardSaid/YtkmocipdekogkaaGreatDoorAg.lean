/-
  A function whose ways all come to one state: it goes on from there once.
  A calm, from each form of what waits: what it comes to.
  A fleet's form, the numbers of a trace's spans by their order.
  A calm, tick by tick; what is no more reached is dropped between two ticks; a run for each way the policy may decide.
  Behind a calm: what waits, what a query answers.
  Behind a calm: a query's answer is of spans that came; nothing waits.
  A calm: pieces beside which anything may stand; one state among some, under other names; the numbers by their order at the end.
-/
import Derived.Test.YtkmocipdekogkaaGreatDoorAh
import Derived.Test.YtkmocipdekogkaaGreatDoorAd
set_option linter.all false
section
namespace Go.Proofs.YtkmocipdekogkaaGreatDoor
set_option linter.unusedVariables false
set_option linter.unusedSimpArgs false
set_option linter.unusedSectionVars false
noncomputable section
mutual
def refV : AV → List Nat → List Nat
  | .ptr b _, l => b :: l
  | .sl b _ _ _, l => b :: l
  | .slo b _ _, l => b :: l
  | .mp b, l => b :: l
  | .slu b _ _ _, l => b :: l
  | .fn _ x y, l => refVs x (refVs y l)
  | .ifc _ v, l => refV v l
  | .agg x, l => refVs x l
  | .tup x, l => refVs x l
  | _, l => l
def refVs : List AV → List Nat → List Nat
  | [], l => l
  | v :: r, l => refV v (refVs r l)
end
def refE : List (AV × AV × Nat) → List Nat → List Nat
  | [], l => l
  | (x, y, _) :: r, l => refV x (refV y (refE r l))
/-- What an object names; none: it is not kept. -/
def refO : AO → List Nat → Option (List Nat)
  | .row cs _, l => some (refVs cs l)
  | .map es _, l => some (refE es l)
  | .junk _ _, l => some l
  | _, _ => none
def gcL (h : Tr AO) (n : Nat) : List Nat → Tr AO → Tr AO :=
  Nat.rec (fun _ a => a) (fun _ ih todo a => match todo with
    | [] => a
    | b :: r => match a.get b with
      | some _ => ih r a
      | none => match h.get b with
        | some o => (match refO o r with | some q => ih q (a.set b o) | none => ih r a)
        | none => ih r a) n
/-- The numbers of objects below n. -/
def lowT (n : Nat) (t : Tr AO) : (Nat → Nat) → List Nat → List Nat :=
  Tr.rec (fun _ l => l) (fun v _ _ il ir p l => match v with
    | none => il (fun j => p (Nat.add (Nat.mul 2 j) 1)) (ir (fun j => p (Nat.add (Nat.mul 2 j) 2)) l)
    | some _ => bif Nat.ble (Nat.add (p 0) 1) n then p 0 :: il (fun j => p (Nat.add (Nat.mul 2 j) 1)) (ir (fun j => p (Nat.add (Nat.mul 2 j) 2)) l) else il (fun j => p (Nat.add (Nat.mul 2 j) 1)) (ir (fun j => p (Nat.add (Nat.mul 2 j) 2)) l)) t
def gcX (n : Nat) (v : AV) (s : St) : St := { h := gcL s.h 2000 (refV v (lowT n s.h (fun j => j) [])) .e, nx := s.nx }
section
variable {β : Type} (T : Tab) (fl : β)
def mergeK (f : Nat) (args : List AV) (s : St) (k : AV → St → β) (v0 : AV) (S0 : St) : β :=
  bif callF T false andB (fun _ => none) 400 60 f args s (fun v s' => bif beqV v v0 then subS S0 s' else false) then k v0 S0 else fl
def mergeH (f : Nat) (args : List AV) (s : St) (k : AV → St → β) : β :=
  match callF T none (fun a _ => a) (fun _ => none) 400 60 f args s (fun v s' => some (v, s')) with
  | some (v0, s0) => mergeK T fl f args s k v0 (gcX s.nx v0 s0)
  | none => fl
end
section
variable {β : Type} (J : β → Prop) {P : Program} {T : Tab} (hT : TOk P T) (hS : SubOk T) (hF : FlatOk P T) (hX : XOk P T) {fl : β} (hfl : ¬ J fl)
include hT hS hF hX hfl
theorem merge_ok {f : Nat} (hne : f ≠ YF) : HookAt J P f (mergeH T fl f) := by
  intro args s k E w args' h R F ha
  unfold mergeH at h
  split at h
  · rename_i v0 s0 _
    unfold mergeK at h
    cases hb : callF T false andB (fun _ => none) 400 60 f args s (fun v s' => bif beqV v v0 then subS (gcX s.nx v0 s0) s' else false) <;> rw [hb] at h <;> simp only [cond_true, cond_false] at h
    case false => exact absurd h hfl
    refine ((callF_ok JB hT hS hF hX (fl := false) (conj := andB) (by simp) andB_ok (hook_none JB P) 400 60).1 f args s _ E w args' hne hb R F ha).mono fun e w' he => ?_
    obtain ⟨v, s', E', v', rfl, hj, K, R2, F2, hv⟩ := he
    obtain ⟨h1, h2⟩ := bif_and hj
    have := beqV_eq _ _ h1
    subst this
    obtain ⟨R3, F3⟩ := subS_rel h2 R2 F2
    exact ⟨_, _, E', v', rfl, h, subS_to h2 K, R3, F3, hv⟩
  · exact absurd h hfl
end
/-- The functions that are taken by contracts in a calm. -/
def hookC {β : Type} (fl : β) (conj : β → β → β) : Nat → Option (List AV → St → (AV → St → β) → β) := hooksW [(114, mergeH tabF fl 114)] (hookT fl conj)
end
end Go.Proofs.YtkmocipdekogkaaGreatDoor
end
section
namespace Go.Proofs.YtkmocipdekogkaaGreatDoor
set_option linter.unusedVariables false
noncomputable section
/-- The numbers of a trace's two spans: the first is less, greater, or it is not known. -/
def idN (o m : Nat) : Nat := match o with | 0 => m | 1 => 1 - m | _ => 8 + m
structure Sc where
  σ : Sh
  oa : Nat
  ob : Nat
def Sc.slot (κ : Sc) (second : Bool) (m : Nat) : List AV := spanA (κ.σ.key second) (.sym (bif second then 2 else 1) (idN (bif second then κ.ob else κ.oa) m)) ((bif second then 2 else 0) + m)
def Sc.spans (κ : Sc) (second : Bool) : List (List AV) := match (bif second then κ.σ.b else κ.σ.a).1 with
  | 0 => []
  | 1 => [κ.slot second 0]
  | _ => [κ.slot second 0, κ.slot second 1]
def trC (κ : Sc) (second : Bool) (n : Nat) (place : Nat) : List (Nat × AO) :=
  [(n, oR 2 [.slo (n + 2) 0 (bif second then κ.σ.b else κ.σ.a).1, .bool (bif second then κ.σ.b else κ.σ.a).2]), (n + 1, oR 3 [κ.σ.key second, nU 6, nI place]), (n + 2, oR 8 (catA (κ.spans second)))]
/-- The buffer without the traces' own objects. -/
def idleL (σ : Sh) : List (Nat × AO) := match σ.t with
  | 0 => [(24, .map [] 0), (25, oR 6 [.nils, .nilm, (nI 2), (nI 2), (nU 6), (.mp 24)])]
  | 1 => [(24, .map [(σ.key false, pP 30, 0)] 1), (25, oR 6 [.slo 37 0 1, .mp 36, (nI 2), (nI 2), (nU 6), (.mp 24)]), (36, .map [(σ.key false, pP 31, 0)] 1), (37, oR 1 [pP 31])]
  | _ => [(24, .map [(σ.key false, pP 30, 0), (σ.key true, pP 33, 1)] 2), (25, oR 6 [.slo 37 0 2, .mp 36, (nI 2), (nI 2), (nU 6), (.mp 24)]), (36, .map [(σ.key false, pP 31, 0), (σ.key true, pP 34, 1)] 2),
     (37, oR 1 (bif σ.lt then [pP 31, pP 34] else [pP 34, pP 31]))]
def ownL (κ : Sc) : List (Nat × AO) := match κ.σ.t with
  | 0 => []
  | 1 => trC κ false 30 0
  | _ => trC κ false 30 (bif κ.σ.lt then 0 else 1) ++ trC κ true 33 (bif κ.σ.lt then 1 else 0)
def scL (κ : Sc) : List (Nat × AO) := baseL ++ idleL κ.σ ++ ownL κ
def scS (κ : Sc) : St := mkS 38 (scL κ)
def Sc.all (κ : Sc) : List (List AV) := match κ.σ.t with
  | 0 => []
  | 1 => κ.spans false
  | _ => κ.spans false ++ κ.spans true
/-- Are cells those of spans that came? -/
def inB (L : List (List AV)) (c : List AV) : Bool := List.rec false (fun l _ ih => bif beqVs l c then true else ih) L
def rowsB (L : List (List AV)) (n : Nat) : List AV → Bool := Nat.rec (fun _ => true) (fun _ ih cs => bif inB L (takeL 8 cs) then ih (dropL 8 cs) else false) n
def okQ (L : List (List AV)) (v : AV) (s : St) : Bool := match v with
  | .tup [.nils, .int .i64 (.ofNat 0)] => true
  | .tup [.slo b 0 n, .int .i64 (.ofNat 0)] => bif Nat.ble n 1000 then (match s.rowAt b with | some (cs, 8) => rowsB L n cs | _ => false) else false
  | _ => false
def queryB (L : List (List AV)) (s : St) (k : AV) : Bool := callF tabF false andB (hookT false andB) 10000 100 15 [pP 2, k] s (okQ L)
def pendB (s : St) : Bool := callF tabF false andB (hookT false andB) 10000 100 16 [pP 2] s (fun v _ => beqV v (nI 0))
def Sc.keys (κ : Sc) : List AV := match κ.σ.t with
  | 0 => [.sym 0 15]
  | 1 => [.sym 0 2, .sym 0 15]
  | _ => [.sym 0 2, κ.σ.key true, .sym 0 15]
def finB (κ : Sc) (s : St) : Bool := bif pendB s then List.rec true (fun k _ ih => bif queryB κ.all s k then ih else false) κ.keys else false
end
end Go.Proofs.YtkmocipdekogkaaGreatDoor
end
section
namespace Go.Proofs.YtkmocipdekogkaaGreatDoor
set_option linter.unusedVariables false
set_option linter.unusedSimpArgs false
set_option linter.unusedSectionVars false
open Go.RowKit

noncomputable def Sc.dom (κ : Sc) : List (Nat × Nat) := symsA (catA κ.all)
def unN (o b : Nat) : Nat := match o with | 0 => Nat.add 8 b | 1 => Nat.sub 9 b | _ => b
def Sc.old (κ : Sc) (c b : Nat) : Nat := bif Nat.beq c 1 then unN κ.oa b else bif Nat.beq c 2 then unN κ.ob b else b
def renR (κ : Sc) : List (Nat × Nat) → SyR | [] => [] | p :: r => (p, (p.1, κ.old p.1 p.2)) :: renR κ r
def okN (o b : Nat) : Bool := bif Nat.beq o 2 then (bif Nat.beq b 8 then true else Nat.beq b 9) else (bif Nat.ble o 1 then Nat.ble b 1 else false)
def domB (oa ob : Nat) : List (Nat × Nat) → Bool
  | [] => true
  | p :: r => bif (bif Nat.beq p.1 1 then okN oa p.2 else bif Nat.beq p.1 2 then okN ob p.2 else bif Nat.beq p.1 9 then false else true) then domB oa ob r else false
noncomputable def wkAll (ρ : SyR) : List (List AV) → List (List AV) → Bool
  | [], [] => true
  | a :: r, b :: q => bif wkVs 0 (fun b => b) ρ 38 a b then wkAll ρ r q else false
  | _, _ => false
noncomputable def chkSc (κ : Sc) : Bool := bif wkS 0 (fun b => b) (renR κ κ.dom) ((scL κ).map (·.1)) (scS κ) (shS κ.σ) then (bif wkAll (renR κ κ.dom) κ.all κ.σ.all then domB κ.oa κ.ob κ.dom else false) else false
def optO (p : Nat × Bool) : List Nat := bif Nat.beq p.1 2 then (bif p.2 then [2] else [0, 1]) else [2]
noncomputable def chkB (σ : Sh) (oa : Nat) : List Nat → Bool
  | [] => true
  | ob :: r => bif chkSc ⟨σ, oa, ob⟩ then chkB σ oa r else false
noncomputable def chkA (σ : Sh) : List Nat → Bool
  | [] => true
  | oa :: r => bif chkB σ oa (optO σ.b) then chkA σ r else false
noncomputable def chkL : List Sh → Bool
  | [] => true
  | σ :: r => bif chkA σ (optO σ.a) then chkL r else false
theorem chk_run : chkL shapes = true := by kernel_rfl
theorem chkB_ok {σ : Sh} {oa : Nat} : ∀ {l : List Nat}, chkB σ oa l = true → ∀ ob ∈ l, chkSc ⟨σ, oa, ob⟩ = true
  | a :: r, h, ob, hb => by
    unfold chkB at h
    obtain ⟨h1, h2⟩ := bif_and h
    rcases List.mem_cons.1 hb with rfl | hb
    · exact h1
    · exact chkB_ok h2 ob hb
theorem chkA_ok {σ : Sh} : ∀ {l : List Nat}, chkA σ l = true → ∀ oa ∈ l, ∀ ob ∈ optO σ.b, chkSc ⟨σ, oa, ob⟩ = true
  | a :: r, h, oa, ha => by
    unfold chkA at h
    obtain ⟨h1, h2⟩ := bif_and h
    rcases List.mem_cons.1 ha with rfl | ha
    · exact chkB_ok h1
    · exact chkA_ok h2 oa ha
theorem chkL_ok : ∀ {l : List Sh}, chkL l = true → ∀ σ ∈ l, ∀ oa ∈ optO σ.a, ∀ ob ∈ optO σ.b, chkSc ⟨σ, oa, ob⟩ = true
  | a :: r, h, σ, hs => by
    unfold chkL at h
    obtain ⟨h1, h2⟩ := bif_and h
    rcases List.mem_cons.1 hs with rfl | hs
    · exact chkA_ok h1
    · exact chkL_ok h2 σ hs
theorem syF_ren {κ : Sc} : ∀ {D : List (Nat × Nat)} {c b c' b' : Nat}, syF (renR κ D) c b = some (c', b') → c' = c ∧ b' = κ.old c b ∧ (c, b) ∈ D
  | [], c, b, c', b', h => by cases h
  | (x, y) :: r, c, b, c', b', h => by
    simp only [renR, syF] at h
    cases h1 : Nat.beq x c <;> rw [h1] at h <;> simp only [cond_true, cond_false] at h
    · obtain ⟨q1, q2, q3⟩ := syF_ren h
      exact ⟨q1, q2, List.mem_cons_of_mem _ q3⟩
    · cases h2 : Nat.beq y b <;> rw [h2] at h <;> simp only [cond_true, cond_false] at h
      · obtain ⟨q1, q2, q3⟩ := syF_ren h
        exact ⟨q1, q2, List.mem_cons_of_mem _ q3⟩
      · have e1 := Nat.eq_of_beq_eq_true h1
        have e2 := Nat.eq_of_beq_eq_true h2
        subst e1 e2
        cases h
        exact ⟨rfl, rfl, List.mem_cons_self ..⟩
theorem domB_ok {oa ob : Nat} : ∀ {D : List (Nat × Nat)}, domB oa ob D = true → ∀ c b, (c, b) ∈ D → (c = 1 → okN oa b = true) ∧ (c = 2 → okN ob b = true) ∧ c ≠ 9
  | p :: r, h, c, b, hc => by
    unfold domB at h
    obtain ⟨h1, h2⟩ := bif_and h
    rcases List.mem_cons.1 hc with rfl | hc
    · refine ⟨fun h => by subst h; exact h1, fun h => by subst h; exact h1, fun h => by subst h; cases h1⟩
    · exact domB_ok h2 c b hc
theorem okN_ok {o b : Nat} (h : okN o b = true) : (o = 2 ∧ (b = 8 ∨ b = 9)) ∨ (o ≤ 1 ∧ b ≤ 1) := by
  unfold okN at h
  cases h1 : Nat.beq o 2 <;> rw [h1] at h <;> simp only [cond_true, cond_false] at h
  · obtain ⟨h2, h3⟩ := bif_and h
    exact .inr ⟨Nat.le_of_ble_eq_true h2, Nat.le_of_ble_eq_true h3⟩
  · refine .inl ⟨Nat.eq_of_beq_eq_true h1, ?_⟩
    cases h2 : Nat.beq b 8 <;> rw [h2] at h <;> simp only [cond_true, cond_false] at h
    · exact .inr (Nat.eq_of_beq_eq_true h)
    · exact .inl (Nat.eq_of_beq_eq_true h2)
open Classical in
noncomputable def Env.ren (E : Env) (κ : Sc) : Env := { at' := fun b => if b < 38 then E b else none, val := fun c b => if (c, b) ∈ κ.dom then E.val c (κ.old c b) else none, base := E.base }
theorem ren_in {E : Env} {κ : Sc} {c b : Nat} {v : Value} (h : (E.ren κ).val c b = some v) : (c, b) ∈ κ.dom ∧ E.val c (κ.old c b) = some v := by
  unfold Env.ren at h
  simp only at h
  split at h
  · rename_i h1; exact ⟨h1, h⟩
  · cases h
/-- The order of a trace's numbers. -/
def OrdOk (E : Env) (c o : Nat) : Prop := o ≤ 1 → ∀ v v', E.val c 8 = some v → E.val c 9 = some v' → (o = 0 → natV v < natV v') ∧ (o = 1 → natV v' < natV v)
theorem ord_case {E : Env} (Fa : Facts E) {c o i j : Nat} {v v' : Value} (hc : c = 1 ∨ c = 2) (ho : OrdOk E c o) (hi : okN o i = true) (hj : okN o j = true) (hij : i < j) (h1 : E.val c (unN o i) = some v) (h2 : E.val c (unN o j) = some v') :
    (j ≤ 7 → natV v < natV v') ∧ v ≠ v' := by
  rcases okN_ok hi with ⟨rfl, hi⟩ | ⟨h01, hi⟩
  · rcases okN_ok hj with ⟨_, hj⟩ | ⟨h, _⟩
    · exact ⟨fun h7 => by omega, Fa.ne c i j v v' (by omega) hij (by omega) h1 h2⟩
    · omega
  · rcases okN_ok hj with ⟨h, _⟩ | ⟨_, hj⟩
    · omega
    · have e1 : i = 0 := by omega
      have e2 : j = 1 := by omega
      subst e1 e2
      have : o = 0 ∨ o = 1 := by omega
      rcases this with rfl | rfl
      · exact ⟨fun _ => (ho (by omega) v v' h1 h2).1 rfl, Fa.ne c 8 9 v v' (by omega) (by omega) (by omega) h1 h2⟩
      · exact ⟨fun _ => (ho (by omega) v' v h2 h1).2 rfl, fun h => Fa.ne c 8 9 v' v (by omega) (by omega) (by omega) h2 h1 h.symm⟩
theorem ren_facts {E : Env} (Fa : Facts E) {κ : Sc} (hD : domB κ.oa κ.ob κ.dom = true) (h1 : OrdOk E 1 κ.oa) (h2 : OrdOk E 2 κ.ob) : Facts (E.ren κ) where
  cls := fun c b v h => Fa.cls c _ v (ren_in h).2
  ord := fun c i j v v' hc hij h7 hi hj => by
    obtain ⟨d1, q1⟩ := ren_in hi
    obtain ⟨d2, q2⟩ := ren_in hj
    have k1 := domB_ok hD _ _ d1
    have k2 := domB_ok hD _ _ d2
    have : c = 0 ∨ c = 1 ∨ c = 2 := by omega
    rcases this with rfl | rfl | rfl
    · exact Fa.ord 0 i j v v' hc hij h7 q1 q2
    · exact (ord_case Fa (.inl rfl) h1 (k1.1 rfl) (k2.1 rfl) hij q1 q2).1 h7
    · exact (ord_case Fa (.inr rfl) h2 (k1.2.1 rfl) (k2.2.1 rfl) hij q1 q2).1 h7
  ne := fun c i j v v' hc hij h7 hi hj => by
    obtain ⟨d1, q1⟩ := ren_in hi
    obtain ⟨d2, q2⟩ := ren_in hj
    have k1 := domB_ok hD _ _ d1
    have k2 := domB_ok hD _ _ d2
    have : c = 0 ∨ c = 1 ∨ c = 2 := by omega
    rcases this with rfl | rfl | rfl
    · exact Fa.ne 0 i j v v' hc hij h7 q1 q2
    · exact (ord_case Fa (.inl rfl) h1 (k1.1 rfl) (k2.1 rfl) hij q1 q2).2
    · exact (ord_case Fa (.inr rfl) h2 (k1.2.1 rfl) (k2.2.1 rfl) hij q1 q2).2
  base := Fa.base
  raw := fun b v h => absurd rfl (domB_ok hD _ _ (ren_in h).1).2.2
theorem ren_wk (E : Env) (κ : Sc) : WkE 0 (fun b => b) (renR κ κ.dom) 38 E (E.ren κ) where
  at' := fun b hb => by show (if b < 38 then E b else none) = _; rw [if_pos hb]
  out := fun b hb => by show (if b < 38 then E b else none) = _; rw [if_neg (by omega)]
  base := rfl
  val := fun c b c' b' v h hv => by
    obtain ⟨h1, h2, h3⟩ := syF_ren h
    subst h1 h2
    show (if (c', b) ∈ κ.dom then E.val c' (κ.old c' b) else none) = some v
    rw [if_pos h3]; exact hv
/-- A fleet of that form stands there; the spans' numbers by their order. -/
structure AtC (κ : Sc) (E : Env) (w : World) (fl : Loc) (T : List (List Value)) (K : Nat → Prop) : Prop where
  rel : Rel E (scS κ) w
  fresh : Fresh E (scS κ)
  dom : ∀ c b v, E.val c b = some v → (c, b) ∈ κ.dom
  at2 : E 2 = some fl
  spans : SpansOk E κ.all T
  apart : Apart E (scS κ) K
theorem wkAll_ok {ρ : SyR} {E E2 : Env} (W : WkE 0 (fun b => b) ρ 38 E E2) {T : List (List Value)} : ∀ {a b : List (List AV)}, wkAll ρ a b = true → SpansOk E b T → SpansOk E2 a T
  | [], [], _, _ => fun c hc => by cases hc
  | x :: r, y :: q, h, hs => by
    simp only [wkAll] at h
    obtain ⟨h1, h2⟩ := bif_and h
    have ih := wkAll_ok W h2 (fun c hc => hs c (List.mem_cons_of_mem _ hc))
    intro c hc
    rcases List.mem_cons.1 hc with rfl | hc
    · obtain ⟨t, ht, hr⟩ := hs y (List.mem_cons_self ..)
      exact ⟨t, ht, hr.wk W h1⟩
    · exact ih c hc
theorem ord_pick {E : Env} (Fa : Facts E) (c : Nat) (hc : c = 1 ∨ c = 2) (p : Nat × Bool) : ∃ o ∈ optO p, OrdOk E c o := by
  unfold optO
  cases h1 : Nat.beq p.1 2
  · exact ⟨2, by simp, fun h => by omega⟩
  · cases h2 : p.2
    · by_cases h : ∃ v v', E.val c 8 = some v ∧ E.val c 9 = some v' ∧ natV v < natV v'
      · obtain ⟨v, v', q1, q2, q3⟩ := h
        refine ⟨0, by simp, fun _ u u' k1 k2 => ⟨fun _ => ?_, fun h => by omega⟩⟩
        rw [q1] at k1; rw [q2] at k2; cases k1; cases k2; exact q3
      · refine ⟨1, by simp, fun _ u u' k1 k2 => ⟨fun h => by omega, fun _ => ?_⟩⟩
        have hne := Fa.ne c 8 9 u u' (by omega) (by omega) (by omega) k1 k2
        obtain ⟨n, rfl, _, _⟩ := (Fa.cls c 8 u k1).1 (by omega)
        obtain ⟨m, rfl, _, _⟩ := (Fa.cls c 9 u' k2).1 (by omega)
        rcases Nat.lt_trichotomy n m with q | q | q
        · exact absurd ⟨_, _, k1, k2, q⟩ h
        · exact absurd (by rw [q]) hne
        · exact q
    · exact ⟨2, by simp, fun h => by omega⟩
theorem at_sc {σ : Sh} {E : Env} {w : World} {fl : Loc} {n : Nat} {T : List (List Value)} {K : Nat → Prop} (H : At1 σ E w fl n T K) : ∃ oa ∈ optO σ.a, ∃ ob ∈ optO σ.b, ∃ E', AtC ⟨σ, oa, ob⟩ E' w fl T K := by
  obtain ⟨oa, ha, h1⟩ := ord_pick H.rel.facts 1 (.inl rfl) σ.a
  obtain ⟨ob, hb, h2⟩ := ord_pick H.rel.facts 2 (.inr rfl) σ.b
  have hk := chkL_ok chk_run σ H.mem oa ha ob hb
  unfold chkSc at hk
  obtain ⟨k1, hk⟩ := bif_and hk
  obtain ⟨k2, k3⟩ := bif_and hk
  obtain ⟨j1, j2, j3⟩ := wk_rel (m := 38) (l := scL ⟨σ, oa, ob⟩) k1 (ren_wk E ⟨σ, oa, ob⟩) (ren_facts H.rel.facts k3 h1 h2) H.rel H.fresh
  refine ⟨oa, ha, ob, hb, E.ren ⟨σ, oa, ob⟩, j1, j2, fun c b v h => (ren_in h).1, ?_, wkAll_ok (ren_wk E ⟨σ, oa, ob⟩) k2 H.spans, fun b o l hb hE hk => ?_⟩
  · show (if 2 < 38 then E 2 else none) = some fl
    rw [if_pos (by omega)]; exact H.at2
  · obtain ⟨b', o', q1, q2⟩ := j3 b o l hb hE
    exact H.apart b' o' l q1 q2 hk
end Go.Proofs.YtkmocipdekogkaaGreatDoor
end
section
namespace Go.Proofs.YtkmocipdekogkaaGreatDoor
set_option linter.unusedVariables false
set_option linter.unusedSimpArgs false
set_option linter.unusedSectionVars false
noncomputable section
/-! ### A state's parts, made plain -/
section
variable {β : Type}
mutual
def frV : AV → (AV → β) → β
  | .int kd (.ofNat n), k => frcB n fun n => k (.int kd (.ofNat n))
  | .int kd (.negSucc n), k => frcB n fun n => k (.int kd (.negSucc n))
  | .ptr b o, k => frcB b fun b => frcB o fun o => k (.ptr b o)
  | .sl b o l c, k => frcB b fun b => frcB o fun o => frcB l fun l => frcB c fun c => k (.sl b o l c)
  | .slo b o l, k => frcB b fun b => frcB o fun o => frcB l fun l => k (.slo b o l)
  | .mp b, k => frcB b fun b => k (.mp b)
  | .fn f x y, k => frVs x fun x => frVs y fun y => k (.fn f x y)
  | .ifc t v, k => frcB t fun t => frV v fun v => k (.ifc t v)
  | .agg l, k => frVs l fun l => k (.agg l)
  | .tup l, k => frVs l fun l => k (.tup l)
  | .sym c b, k => frcB c fun c => frcB b fun b => k (.sym c b)
  | .upto g n, k => frcB n fun n => k (.upto g n)
  | .slu b z g n, k => frcB b fun b => frcB z fun z => frcB n fun n => k (.slu b z g n)
  | .bool true, k => k (.bool true)
  | .bool false, k => k (.bool false)
  | .str s, k => k (.str s)
  | .nilp, k => k .nilp
  | .nils, k => k .nils
  | .slz, k => k .slz
  | .nilm, k => k .nilm
  | .nilf, k => k .nilf
  | .nili, k => k .nili
  | .any, k => k .any
  | .bad, k => k .bad
  | .anyi d, k => k (.anyi d)
  | .anyb, k => k .anyb
  | .sl0, k => k .sl0
  | .yld b, k => k (.yld b)
def frVs : List AV → (List AV → β) → β
  | [], k => k []
  | v :: r, k => frV v fun v => frVs r fun r => k (v :: r)
end
def frE : List (AV × AV × Nat) → (List (AV × AV × Nat) → β) → β
  | [], k => k []
  | (x, y, n) :: r, k => frV x fun x => frV y fun y => frcB n fun n => frE r fun r => k ((x, y, n) :: r)
def frO : AO → (AO → β) → β
  | .row cs z, k => frVs cs fun cs => frcB z fun z => k (.row cs z)
  | .map es c, k => frE es fun es => frcB c fun c => k (.map es c)
  | .junk true z, k => frcB z fun z => k (.junk true z)
  | .junk false z, k => frcB z fun z => k (.junk false z)
  | o, k => k o
def frT (t : Tr AO) : (Tr AO → β) → β :=
  Tr.rec (fun k => k .e) (fun v l r il ir k => il fun l => ir fun r => match v with | none => k (.n none l r) | some o => frO o fun o => k (.n (some o) l r)) t
def frSt (s : St) (k : St → β) : β := frcB s.nx fun n => frT s.h fun h => k { h := h, nx := n }
mutual
theorem frV_eq : ∀ (v : AV) (k : AV → β), frV v k = k v
  | .int kd (.ofNat n), k => by simp only [frV, frcB_eq]
  | .int kd (.negSucc n), k => by simp only [frV, frcB_eq]
  | .ptr b o, k => by simp only [frV, frcB_eq]
  | .sl b o l c, k => by simp only [frV, frcB_eq]
  | .slo b o l, k => by simp only [frV, frcB_eq]
  | .mp b, k => by simp only [frV, frcB_eq]
  | .fn f x y, k => by simp only [frV]; rw [frVs_eq, frVs_eq]
  | .ifc t v, k => by simp only [frV, frcB_eq]; rw [frV_eq]
  | .agg l, k => by simp only [frV]; rw [frVs_eq]
  | .tup l, k => by simp only [frV]; rw [frVs_eq]
  | .sym c b, k => by simp only [frV, frcB_eq]
  | .upto g n, k => by simp only [frV, frcB_eq]
  | .slu b z g n, k => by simp only [frV, frcB_eq]
  | .bool true, k => rfl
  | .bool false, k => rfl
  | .str s, k => rfl
  | .nilp, k => rfl
  | .nils, k => rfl
  | .slz, k => rfl
  | .nilm, k => rfl
  | .nilf, k => rfl
  | .nili, k => rfl
  | .any, k => rfl
  | .bad, k => rfl
  | .anyi d, k => rfl
  | .anyb, k => rfl
  | .sl0, k => rfl
  | .yld b, k => rfl
theorem frVs_eq : ∀ (l : List AV) (k : List AV → β), frVs l k = k l
  | [], k => rfl
  | v :: r, k => by simp only [frVs]; rw [frV_eq, frVs_eq]
end
theorem frE_eq : ∀ (l : List (AV × AV × Nat)) (k : List (AV × AV × Nat) → β), frE l k = k l
  | [], k => rfl
  | (x, y, n) :: r, k => by simp only [frE]; rw [frV_eq, frV_eq, frcB_eq, frE_eq r]
theorem frO_eq (o : AO) (k : AO → β) : frO o k = k o := by
  cases o with
  | row cs z => simp only [frO]; rw [frVs_eq, frcB_eq]
  | map es c => simp only [frO]; rw [frE_eq, frcB_eq]
  | junk u z => cases u <;> simp only [frO] <;> rw [frcB_eq]
  | _ => rfl
theorem frT_eq : ∀ (t : Tr AO) (k : Tr AO → β), frT t k = k t
  | .e, k => rfl
  | .n v l r, k => by
    show frT l (fun l => frT r fun r => match v with | none => k (.n none l r) | some o => frO o fun o => k (.n (some o) l r)) = _
    rw [frT_eq l, frT_eq r]
    cases v with
    | none => rfl
    | some o => exact frO_eq o _
theorem frSt_eq (s : St) (k : St → β) : frSt s k = k s := by
  unfold frSt
  rw [frcB_eq, frT_eq]
end
/-! ### What is reached -/
def gcF (s : St) : St := { h := gcL s.h 4000 [2] .e, nx := s.nx }
theorem gcL_get {h : Tr AO} : ∀ (n : Nat) (todo : List Nat) (a : Tr AO) (b : Nat) (o : AO), (gcL h n todo a).get b = some o → a.get b = some o ∨ h.get b = some o
  | 0, todo, a, b, o, hb => .inl hb
  | n + 1, [], a, b, o, hb => .inl hb
  | n + 1, c :: r, a, b, o, hb => by
    have hb' : (match a.get c with
      | some _ => gcL h n r a
      | none => match h.get c with
        | some o => (match refO o r with | some q => gcL h n q (a.set c o) | none => gcL h n r a)
        | none => gcL h n r a : Tr AO).get b = some o := hb
    split at hb'
    · exact gcL_get n _ _ b o hb'
    · split at hb'
      · rename_i o1 h1
        split at hb'
        · rcases gcL_get n _ _ b o hb' with h2 | h2
          · rw [Tr.get_set] at h2
            by_cases e : b = c
            · subst e
              rw [if_pos rfl] at h2
              rw [← h2]; exact .inr h1
            · rw [if_neg e] at h2; exact .inl h2
          · exact .inr h2
        · exact gcL_get n _ _ b o hb'
      · exact gcL_get n _ _ b o hb'
theorem gcF_get {s : St} {b : Nat} {o : AO} (h : (gcF s).h.get b = some o) : s.h.get b = some o := by
  have h' : (gcL s.h 4000 [2] .e).get b = some o := h
  rcases gcL_get _ _ _ b o h' with h | h
  · rw [Tr.get_e] at h; cases h
  · exact h
theorem gcF_rel {E : Env} {s : St} {w : World} (R : Rel E s w) (F : Fresh E s) : Rel E (gcF s) w ∧ Fresh E (gcF s) :=
  ⟨⟨fun b o l hb hE => R.obj b o l (gcF_get hb) hE, fun b c o o' l l' hb hc => R.inj b c o o' l l' (gcF_get hb) (gcF_get hc), R.facts⟩, F⟩
theorem gcF_to {E E0 : Env} {s s0 : St} {w w0 : World} (K : Step E0 s0 w0 E s w) : Step E0 s0 w0 E (gcF s) w :=
  ⟨K.le, K.size, K.tape, K.os, K.output, K.frame, fun b o l hb hE => K.own b o l (gcF_get hb) hE, K.nx, K.old⟩
/-! ### A calm -/
abbrev BD := List Nat → Bool
def flD : BD := fun _ => false
def andD (a b : BD) : BD := fun ds => bif a ds then b ds else false
/-- One decision is taken from the list: 0: keep, 1: drop, 2: it is left open. -/
def orD (a b u : BD) : BD := fun ds => List.rec false (fun d r _ => bif Nat.beq d 2 then u r else bif Nat.beq d 0 then a r else b r) ds
/-- True for lists enough: each decision is left open, or both are there. -/
inductive JD : BD → Prop
  | fin {b : BD} (h : b [] = true) : JD b
  | any {b : BD} (h : JD fun ds => b (2 :: ds)) : JD b
  | two {b : BD} (h : JD fun ds => b (0 :: ds)) (k : JD fun ds => b (1 :: ds)) : JD b
theorem JD.const {c : Bool} (h : JD fun _ => c) : c = true := by
  have key : ∀ b : BD, JD b → ∀ c : Bool, b = (fun _ => c) → c = true := by
    intro b hb
    induction hb with
    | fin h => intro c e; subst e; exact h
    | any h ih => intro c e; subst e; exact ih c rfl
    | two h k ih ik => intro c e; subst e; exact ih c rfl
  exact key _ h c rfl
theorem flD_no : ¬ JD flD := fun h => by
  have := JD.const (c := false) h
  cases this
theorem andD_ok (a b : BD) (h : JD (andD a b)) : JD a ∧ JD b := by
  have key : ∀ d : BD, JD d → ∀ a b : BD, d = andD a b → JD a ∧ JD b := by
    intro d hd
    induction hd with
    | fin h => intro a b e; subst e; exact ⟨.fin (bif_and h).1, .fin (bif_and h).2⟩
    | any h ih =>
      intro a b e; subst e
      obtain ⟨h1, h2⟩ := ih (fun ds => a (2 :: ds)) (fun ds => b (2 :: ds)) rfl
      exact ⟨.any h1, .any h2⟩
    | two h k ih ik =>
      intro a b e; subst e
      obtain ⟨h1, h2⟩ := ih (fun ds => a (0 :: ds)) (fun ds => b (0 :: ds)) rfl
      obtain ⟨k1, k2⟩ := ik (fun ds => a (1 :: ds)) (fun ds => b (1 :: ds)) rfl
      exact ⟨.two h1 k1, .two h2 k2⟩
  exact key _ h a b rfl
theorem orD_ok {a b u : BD} (h : JD (orD a b u)) : (JD a ∧ JD b) ∨ JD u := by
  cases h with
  | fin h => cases h
  | any h => exact .inr h
  | two h k => exact .inl ⟨h, k⟩
def evalE (args : List AV) (s : St) (k : AV → St → BD) : BD :=
  bif beside tabF (fun _ => none) 254 args (refsS args) s okTwo then orD (k (.int .i64 (.ofNat 1)) s) (k (.int .i64 (.ofNat 2)) s) (k (.anyi .i64) s) else flD
theorem evalE_ok : HookAt JD Tryz.prog 254 evalE := by
  intro args s k E w args' h R F ha
  unfold evalE at h
  cases hb : beside tabF (fun _ => none) 254 args (refsS args) s okTwo <;> rw [hb] at h <;> simp only [cond_true, cond_false] at h
  case false => exact absurd h flD_no
  refine (beside_ok tabF_ok tabF_sub tabF_flat tabF_x (show (254 : Nat) ≠ YF by decide) (hook_none _ Tryz.prog) hb R F ha).mono fun e w' he => ?_
  obtain ⟨v, s', E', v', rfl, hok, hs, S', R', F', hv⟩ := he
  obtain ⟨k1, k2, k3⟩ := merge_none R F S' R' hs
  unfold okTwo at hok
  split at hok
  · rename_i n
    cases hv
    cases h1 : Nat.beq n 1 <;> rw [h1] at hok <;> simp only [cond_true, cond_false] at hok
    · have := Nat.eq_of_beq_eq_true hok
      subst this
      rcases orD_ok h with ⟨j1, j2⟩ | j
      · exact ⟨_, _, _, _, rfl, j2, k3, k1, k2, .int _ _⟩
      · exact ⟨_, _, _, _, rfl, j, k3, k1, k2, .anyi rfl⟩
    · have := Nat.eq_of_beq_eq_true h1
      subst this
      rcases orD_ok h with ⟨j1, j2⟩ | j
      · exact ⟨_, _, _, _, rfl, j1, k3, k1, k2, .int _ _⟩
      · exact ⟨_, _, _, _, rfl, j, k3, k1, k2, .anyi rfl⟩
  · cases hok
/-- A function whose ways all come to one state (the functions that are taken by contracts, too). -/
def mergeF {β : Type} (fl : β) (f : Nat) (args : List AV) (s : St) (k : AV → St → β) (v0 : AV) (S0 : St) : β :=
  bif callF tabF false andB (hookT false andB) 400 60 f args s (fun v s' => bif beqV v v0 then subS S0 s' else false) then k v0 S0 else fl
def mergeT {β : Type} (fl : β) (f : Nat) (args : List AV) (s : St) (k : AV → St → β) : β :=
  match callF tabF none (fun a _ => a) (hookT none (fun a _ => a)) 400 60 f args s (fun v s' => some (v, s')) with
  | some (v0, s0) => frV v0 fun v0 => frSt (gcX s.nx v0 s0) fun S0 => mergeF fl f args s k v0 S0
  | none => fl
theorem mergeT_ok {β : Type} (J : β → Prop) {fl : β} (hfl : ¬ J fl) {f : Nat} (hne : f ≠ YF) : HookAt J Tryz.prog f (mergeT fl f) := by
  intro args s k E w args' h R F ha
  unfold mergeT at h
  split at h
  · rename_i v0 s0 _
    rw [frV_eq, frSt_eq] at h
    unfold mergeF at h
    cases hb : callF tabF false andB (hookT false andB) 400 60 f args s (fun v s' => bif beqV v v0 then subS (gcX s.nx v0 s0) s' else false) <;> rw [hb] at h <;> simp only [cond_true, cond_false] at h
    case false => exact absurd h hfl
    refine ((callF_ok JB tabF_ok tabF_sub tabF_flat tabF_x (fl := false) (conj := andB) (by simp) andB_ok (hookT_ok JB (by simp) andB_ok) 400 60).1 f args s _ E w args' hne hb R F ha).mono fun e w' he => ?_
    obtain ⟨v, s', E', v', rfl, hj, K, R2, F2, hv⟩ := he
    obtain ⟨h1, h2⟩ := bif_and hj
    have := beqV_eq _ _ h1
    subst this
    obtain ⟨R3, F3⟩ := subS_rel h2 R2 F2
    exact ⟨_, _, E', v', rfl, h, subS_to h2 K, R3, F3, hv⟩
  · exact absurd h hfl
def hookE : Nat → Option (List AV → St → (AV → St → BD) → BD) := hooksW [(254, evalE), (322, mergeT flD 322)] (hookC flD andD)
theorem hookC_ok {β : Type} (J : β → Prop) {fl : β} (hfl : ¬ J fl) {conj : β → β → β} (hconj : ∀ a b, J (conj a b) → J a ∧ J b) : HookOk J Tryz.prog (hookC fl conj) := by
  refine hooksW_ok (hookT_ok J hfl hconj) ?_
  intro p hp
  simp only [List.mem_cons, List.not_mem_nil, or_false] at hp
  subst hp
  exact ⟨(show (114 : Nat) ≠ YF by decide), merge_ok J tabF_ok tabF_sub tabF_flat tabF_x hfl (show (114 : Nat) ≠ YF by decide)⟩
theorem hookE_ok : HookOk JD Tryz.prog hookE := by
  refine hooksW_ok (hookC_ok JD flD_no andD_ok) ?_
  intro p hp
  simp only [List.mem_cons, List.not_mem_nil, or_false] at hp
  rcases hp with rfl | rfl
  · exact ⟨(show (254 : Nat) ≠ YF by decide), evalE_ok⟩
  · exact ⟨(show (322 : Nat) ≠ YF by decide), mergeT_ok JD flD_no (show (322 : Nat) ≠ YF by decide)⟩
def callE : CallF BD := callF tabF flD andD hookE 10000 90
theorem callE_ok : CallOk JD Tryz.prog callE := callF_ok JD tabF_ok tabF_sub tabF_flat tabF_x flD_no andD_ok hookE_ok 10000 90
def lI (i : Nat) : List (Nat × AV) := [(0, pP 2), (1, nI 30), (4, .fn (.func 37) [pP 2] []), (14, nI 30), (15, nI i)]
def onN (k : Tm → St → BD) (e : Ex) (t : Tm) (s : St) : BD := match e with | .normal => k t s | _ => flD
def onX (k : Tm → St → BD) (e : Ex) (t : Tm) (s : St) : BD := match e with | .exit i => bif Nat.beq i 0 then k t s else flD | _ => flD
def cE (c : Code) (t : Tm) (s : St) (k : Ex → Tm → St → BD) : BD := codeF tabF flD andD callE mk14 pl14 10000 c t s k
/-- On to the loop's i-th round, with what is still reached alone. -/
def toI (i : Nat) (k : St → BD) (t : Tm) (s : St) : BD := bif tmSub mk14 t (lI i) then frSt (gcF s) k else flD
def tickD (i : Nat) (s : St) (k : St → BD) : BD := frcB i fun i => cE cBody (tmS (lI i)) s (onN (toI (Nat.add i 1) k))
def ticksD (m : Nat) : Nat → St → (St → BD) → BD := Nat.rec (fun _ s k => k s) (fun _ ih i s k => tickD i s (fun s' => ih (Nat.add i 1) s' k)) m
def lastD (i : Nat) (s : St) (k : St → BD) : BD := cE cBody (tmS (lI i)) s (onX fun _ s => k s)
def preD (s : St) (k : St → BD) : BD :=
  cE cx { loc := [], far := toTr [pP 2, nI 30] 0 .e } s (onN fun t s => cE cr1 t s (onN fun t s => cE cr2 t s (onN (toI 0 k))))
theorem codeE (n : Nat) :
    (∀ (c : Code) (t : Tm) (s : St) (k : Ex → Tm → St → BD) (E : Env) (w : World) (a : Act), JD (codeF tabF flD andD callE mk14 pl14 n c t s k) → codeOk pl14 Tryz.f14.ntmps c = true → Rel E s w → Fresh E s → TRel E mk14 Tryz.f14.ntmps t a → c.wp Tryz.prog (QK JD mk14 Tryz.f14.ntmps k E s w) a w) ∧
    (∀ (c : Code) (t : Tm) (s : St) (k : Ex → Tm → St → BD) (E : Env) (w : World) (a : Act), JD (codeF tabF flD andD callE mk14 pl14 n (.loop c) t s k) → codeOk pl14 Tryz.f14.ntmps c = true → Rel E s w → Fresh E s → TRel E mk14 Tryz.f14.ntmps t a → Code.rounds Tryz.prog c (QK JD mk14 Tryz.f14.ntmps k E s w) n a w) :=
  codeF_ok tabF_ok tabF_sub tabF_flat tabF_x (fl := flD) (conj := andD) (J := JD) flD_no andD_ok callE_ok n
theorem nrmE {c : Code} {t : Tm} {s : St} {k : Tm → St → BD} {E : Env} {w : World} {a : Act} {Q : Exit → Act → World → Prop} (hj : JD (cE c t s (onN k))) (hok : codeOk pl14 Tryz.f14.ntmps c = true) (R : Rel E s w) (F : Fresh E s) (hr : TRel E mk14 Tryz.f14.ntmps t a)
    (hn : ∀ t' s' E' a' w', JD (k t' s') → Step E s w E' s' w' → Rel E' s' w' → Fresh E' s' → TRel E' mk14 Tryz.f14.ntmps t' a' → Q .normal a' w') : c.wp Tryz.prog Q a w := by
  refine wp_mono ((codeE 10000).1 c t s _ E w a hj hok R F hr) ?_
  rintro ex a' w' ⟨e, t', s', E', he, hj, hs, hrel, hf, hr'⟩
  cases e with
  | exit i => exact absurd hj flD_no
  | ret => exact absurd hj flD_no
  | normal =>
    cases ex <;> first | exact he.elim | skip
    exact hn t' s' E' a' w' hj hs hrel hf hr'
theorem toI_ok {i : Nat} {k : St → BD} {t : Tm} {s : St} (h : JD (toI i k t s)) : tmSub mk14 t (lI i) = true ∧ JD (k (gcF s)) := by
  unfold toI at h
  cases h1 : tmSub mk14 t (lI i) <;> rw [h1] at h <;> simp only [cond_true, cond_false] at h
  · exact absurd h flD_no
  · rw [frSt_eq] at h; exact ⟨rfl, h⟩
theorem ticksD_ok {E0 : Env} {s0 : St} {w0 : World} {n : Nat} {Q : Exit → Act → World → Prop} {k : St → BD} : ∀ (m i : Nat) (s : St),
    (∀ s' E' w' a', JD (k s') → Step E0 s0 w0 E' s' w' → Rel E' s' w' → Fresh E' s' → TRel E' mk14 Tryz.f14.ntmps (tmS (lI (i + m))) a' → Code.rounds Tryz.prog cBody Q n a' w') →
    ∀ (E : Env) (w : World) (a : Act), JD (ticksD m i s k) → Step E0 s0 w0 E s w → Rel E s w → Fresh E s → TRel E mk14 Tryz.f14.ntmps (tmS (lI i)) a → Code.rounds Tryz.prog cBody Q (n + m) a w
  | 0, i, s, hk, E, w, a, h, K, R, F, hr => hk s E w a h K R F hr
  | m + 1, i, s, hk, E, w, a, h, K, R, F, hr => by
    have h' : JD (tickD i s (fun s' => ticksD m (Nat.add i 1) s' k)) := h
    unfold tickD at h'
    rw [frcB_eq] at h'
    show Code.rounds Tryz.prog cBody Q ((n + m) + 1) a w
    rw [rounds_succ]
    refine nrmE h' ok_b R F hr ?_
    intro t' s' E' a' w' hj hs hrel hf hr'
    obtain ⟨q1, q2⟩ := toI_ok hj
    obtain ⟨R2, F2⟩ := gcF_rel hrel hf
    refine ticksD_ok m (i + 1) (gcF s') (fun s2 E2 w2 a2 g1 g2 g3 g4 g5 => hk s2 E2 w2 a2 g1 g2 g3 g4 ?_) E' w' a' q2 (gcF_to (K.trans hs)) R2 F2 (tmS_rel hr' q1)
    rw [show i + (m + 1) = (i + 1) + m by omega]
    exact g5
theorem lastD_ok {E0 : Env} {s0 : St} {w0 : World} {n : Nat} {Q : Exit → Act → World → Prop} {k : St → BD} {i : Nat} {s : St} (hk : ∀ s' E' w' a', JD (k s') → a'.defers = [] → Step E0 s0 w0 E' s' w' → Rel E' s' w' → Fresh E' s' → Q (.exit 0) a' w')
    {E : Env} {w : World} {a : Act} (h : JD (lastD i s k)) (K : Step E0 s0 w0 E s w) (R : Rel E s w) (F : Fresh E s) (hr : TRel E mk14 Tryz.f14.ntmps (tmS (lI i)) a) : Code.rounds Tryz.prog cBody Q (n + 1) a w := by
  rw [rounds_succ]
  have h' : JD (codeF tabF flD andD callE mk14 pl14 10000 cBody (tmS (lI i)) s (onX fun _ s => k s)) := h
  refine wp_mono ((codeE 10000).1 cBody _ s _ E w a h' ok_b R F hr) ?_
  rintro ex a' w' ⟨e, t', s', E', he, hj, hs, hrel, hf, hr'⟩
  cases e with
  | normal => exact absurd hj flD_no
  | ret => exact absurd hj flD_no
  | exit j =>
    cases ex <;> first | exact he.elim | skip
    replace he : _ = _ := he
    subst he
    have hj' : JD (bif Nat.beq j 0 then k s' else flD) := hj
    cases h1 : Nat.beq j 0 <;> rw [h1] at hj' <;> simp only [cond_true, cond_false] at hj'
    · exact absurd hj' flD_no
    · have := Nat.eq_of_beq_eq_true h1
      subst this
      exact hk s' E' w' a' hj' hr'.defers (K.trans hs) hrel hf
/-- The loop ends, and then that holds. -/
def QF (Fin : World → Prop) : Exit → Act → World → Prop := fun ex a' w' => ex = .exit 0 ∧ a'.defers = [] ∧ Fin w'
theorem pre_ok {s : St} {mid : St → BD} {Fin : World → Prop} {N : Nat} {E : Env} {w : World} {args' : List Value} (h : JD (preD s mid)) (R : Rel E s w) (F : Fresh E s) (ha : Rls E [pP 2, nI 30] args')
    (hm : ∀ s' E' w' a', JD (mid s') → Step E s w E' s' w' → Rel E' s' w' → Fresh E' s' → TRel E' mk14 Tryz.f14.ntmps (tmS (lI 0)) a' → Code.rounds Tryz.prog cBody (QF Fin) N a' w') :
    Calls Tryz.prog 14 args'.toArray w fun e w' => e = .returned (.tuple #[]) ∧ Fin w' := by
  obtain ⟨hf1, hf2, hf3⟩ := tabF_ok.func 14 Tryz.f14 f14_tab
  refine calls_of_wp hf1 c14_eq ?_
  have TR : TRel E mk14 Tryz.f14.ntmps { loc := [], far := toTr [pP 2, nI 30] 0 .e } { tmps := args'.toArray ++ Array.replicate (Tryz.f14.ntmps - args'.toArray.size) undef, defers := [] } := by
    refine ⟨by simp only [Array.size_append, Array.size_replicate, List.size_toArray]; omega, rfl, fun i v hv => ?_⟩
    rw [tm_get] at hv
    split at hv
    · obtain ⟨u, h1, h2⟩ := toTr_get [pP 2, nI 30] args' 0 .e [] ha rfl (fun j v hv => by rw [Tr.get_e] at hv; cases hv) i v hv
      have hi : i < args'.length := by
        rcases Nat.lt_or_ge i args'.length with h | h
        · exact h
        · rw [List.nil_append, List.getElem?_eq_none h] at h1; cases h1
      rw [Array.getD_eq_getD_getElem?, Array.getElem?_append_left (by simpa using hi)]
      simp only [List.nil_append] at h1
      simpa [h1] using h2
    · cases hv
  unfold preD at h
  refine wp_seq (nrmE h ok_x R F TR ?_)
  intro t1 s1 E1 a1 w1 hj1 K1 R1 F1 T1
  refine wp_seq (nrmE hj1 ok_r1 R1 F1 T1 ?_)
  intro t2 s2 E2 a2 w2 hj2 K2 R2 F2 T2
  refine wp_seq (nrmE hj2 ok_r2 R2 F2 T2 ?_)
  intro t3 s3 E3 a3 w3 hj3 K3 R3 F3 T3
  obtain ⟨q1, q2⟩ := toI_ok hj3
  obtain ⟨R4, F4⟩ := gcF_rel R3 F3
  refine wp_block (wp_loop_rounds N (rounds_mono ?_ N (hm (gcF s3) E3 w3 a3 q2 (gcF_to ((K1.trans K2).trans K3)) R4 F4 (tmS_rel T3 q1))))
  rintro ex a' w' ⟨rfl, hd, hF⟩
  simp only [Exit.inBlock, if_true]
  show bodyPost _ _ _ Exit.normal a' w'
  refine ⟨hd, .tuple #[], ?_, ?_⟩
  · unfold results
    rw [c14_res]
    simp
  · exact ⟨rfl, hF⟩
end
end Go.Proofs.YtkmocipdekogkaaGreatDoor
end
section
namespace Go.Proofs.YtkmocipdekogkaaGreatDoor
set_option linter.unusedVariables false
set_option linter.unusedSimpArgs false
set_option linter.unusedSectionVars false
open Go.RowKit
noncomputable section
/-- The objects of the first stand in the second, under the same numbers. -/
def wkT (ρ : SyR) (n : Nat) : Tr AO → Tr AO → Bool
  | .e, _ => true
  | .n v l r, .n v' l' r' => bif (match v, v' with | none, _ => true | some o, some o' => wkO 0 (fun b => b) ρ n o o' | _, _ => false) then (bif wkT ρ n l l' then wkT ρ n r r' else false) else false
  | .n v l r, .e => bif (match v with | none => true | _ => false) then (bif wkT ρ n l .e then wkT ρ n r .e else false) else false
theorem wkT_ok {ρ : SyR} {n : Nat} : ∀ {a b : Tr AO}, wkT ρ n a b = true → ∀ i o, a.get i = some o → ∃ o', b.get i = some o' ∧ wkO 0 (fun b => b) ρ n o o' = true
  | .e, _, _, i, o, h => by rw [Tr.get_e] at h; cases h
  | .n v l r, .n v' l' r', hs, i, o, h => by
    simp only [wkT] at hs
    obtain ⟨h1, hs⟩ := bif_and hs
    obtain ⟨h2, h3⟩ := bif_and hs
    rw [Tr.get_n] at h ⊢
    by_cases hi : i = 0
    · rw [if_pos hi] at h ⊢
      subst h
      cases v' with
      | none => cases h1
      | some o' => exact ⟨o', rfl, h1⟩
    · rw [if_neg hi] at h ⊢
      by_cases hj : i % 2 = 1
      · rw [if_pos hj] at h ⊢; exact wkT_ok h2 _ _ h
      · rw [if_neg hj] at h ⊢; exact wkT_ok h3 _ _ h
  | .n v l r, .e, hs, i, o, h => by
    simp only [wkT] at hs
    obtain ⟨h1, hs⟩ := bif_and hs
    obtain ⟨h2, h3⟩ := bif_and hs
    rw [Tr.get_n] at h
    by_cases hi : i = 0
    · rw [if_pos hi] at h
      subst h
      cases h1
    · rw [if_neg hi] at h
      by_cases hj : i % 2 = 1
      · rw [if_pos hj] at h; obtain ⟨o', q, _⟩ := wkT_ok h2 _ _ h; rw [Tr.get_e] at q; cases q
      · rw [if_neg hj] at h; obtain ⟨o', q, _⟩ := wkT_ok h3 _ _ h; rw [Tr.get_e] at q; cases q
open Classical in
/-- What is named: of blocks the first n, of what is given from outside D alone. -/
def Env.cut (E : Env) (n : Nat) (D : List (Nat × Nat)) : Env := { at' := fun b => if b < n then E b else none, val := fun c b => if (c, b) ∈ D then E.val c b else none, base := E.base }
theorem cut_in {E : Env} {n : Nat} {D : List (Nat × Nat)} {c b : Nat} {v : Value} (h : (E.cut n D).val c b = some v) : (c, b) ∈ D ∧ E.val c b = some v := by
  unfold Env.cut at h
  simp only at h
  split at h
  · rename_i h1; exact ⟨h1, h⟩
  · cases h
theorem cut_facts {E : Env} (Fa : Facts E) {n : Nat} {D : List (Nat × Nat)} (h9 : ∀ b, (9, b) ∉ D) : Facts (E.cut n D) where
  cls := fun c b v h => Fa.cls c b v (cut_in h).2
  ord := fun c i j v v' h2 hij h7 hi hj => Fa.ord c i j v v' h2 hij h7 (cut_in hi).2 (cut_in hj).2
  ne := fun c i j v v' h2 hij h7 hi hj => Fa.ne c i j v v' h2 hij h7 (cut_in hi).2 (cut_in hj).2
  base := Fa.base
  raw := fun b v h => absurd (cut_in h).1 (h9 b)
theorem cut_wk (E : Env) (n : Nat) (D : List (Nat × Nat)) : WkE 0 (fun b => b) (idR D) n E (E.cut n D) where
  at' := fun b hb => by show (if b < n then E b else none) = _; rw [if_pos hb]
  out := fun b hb => by show (if b < n then E b else none) = _; rw [if_neg (by omega)]
  base := rfl
  val := fun c b c' b' v h hv => by
    obtain ⟨h1, h2, h3⟩ := syF_id h
    subst h1 h2
    show (if (c', b') ∈ D then E.val c' b' else none) = some v
    rw [if_pos h3]; exact hv
theorem wkT_rel {ρ : SyR} {E E2 : Env} {s s' : St} {w : World} (h : wkT ρ s.nx s.h s'.h = true) (W : WkE 0 (fun b => b) ρ s.nx E E2) (Fa : Facts E2) (R : Rel E s' w) :
    Rel E2 s w ∧ Fresh E2 s ∧ ∀ b o l, s.h.get b = some o → E2 b = some l → ∃ o', s'.h.get b = some o' ∧ E b = some l := by
  have key : ∀ b o lb, s.h.get b = some o → E2 b = some lb → E b = some lb ∧ ∃ o', s'.h.get b = some o' ∧ wkO 0 (fun b => b) ρ s.nx o o' = true := by
    intro b o lb hb hE
    have hlt : b < s.nx := by
      rcases Nat.lt_or_ge b s.nx with h | h
      · exact h
      · rw [W.out b h] at hE; cases hE
    rw [W.at' b hlt] at hE
    exact ⟨hE, wkT_ok h b o hb⟩
  refine ⟨⟨fun b o lb hb hE => ?_, fun b c o o' lb lc hb hc hEb hEc hg => ?_, Fa⟩, fun c hc => W.out c hc, fun b o lb hb hE => ?_⟩
  · obtain ⟨k1, o', k2, k3⟩ := key b o lb hb hE
    exact (R.obj _ _ _ k2 k1).wk W k3
  · obtain ⟨k1, p, k2, _⟩ := key b o lb hb hEb
    obtain ⟨j1, q, j2, _⟩ := key c o' lc hc hEc
    exact R.inj _ _ _ _ _ _ k2 j2 k1 j1 hg
  · obtain ⟨k1, o', k2, _⟩ := key b o lb hb hE
    exact ⟨o', k2, k1⟩
/-! ### The checks -/
def queryE (κ : Sc) (s : St) (k : AV) : Bool := callF tabF false andB (hookT false andB) 10000 100 15 [pP 2, k] s (fun v s' => bif okQ κ.all v s' then wkT (idR κ.dom) s.nx s.h s'.h else false)
def queriesE (κ : Sc) (s : St) : List AV → Bool
  | [] => true
  | k :: r => bif queryE κ s k then queriesE κ s r else false
def memA (k : AV) : List AV → Bool
  | [] => false
  | a :: r => bif beqV a k then true else memA k r
def keyB (l : List AV) : List (Nat × Nat) → Bool
  | [] => true
  | p :: r => bif (bif Nat.beq p.1 0 then (bif Nat.ble (Nat.add p.2 1) 15 then memA (.sym 0 p.2) l else false) else Bool.not (Nat.beq p.1 9)) then keyB l r else false
def symAll (D : List (Nat × Nat)) : List (List AV) → Bool
  | [] => true
  | c :: r => bif symB D c then symAll D r else false
def finE (κ : Sc) (s : St) : Bool := bif pendB s then (bif queriesE κ s κ.keys then (bif keyB κ.keys κ.dom then (bif memA (.sym 0 15) κ.keys then symAll κ.dom κ.all else false) else false) else false) else false
/-- Behind the calm. -/
structure AtF (κ : Sc) (s : St) (E : Env) (w : World) (fl : Loc) (T : List (List Value)) (K : Nat → Prop) : Prop where
  fin : finE κ s = true
  rel : Rel E s w
  fresh : Fresh E s
  dom : ∀ c b v, E.val c b = some v → (c, b) ∈ κ.dom
  at2 : E 2 = some fl
  spans : SpansOk E κ.all T
  apart : Apart E s K
/-- What else is of the world's stays. -/
structure Kept (K : Nat → Prop) (w w' : World) : Prop where
  heap : ∀ q, K q → w'.heap[q]? = w.heap[q]?
  size : w.heap.size ≤ w'.heap.size
  tape : w'.tape = w.tape
  os : w'.os = w.os
  output : w'.output = w.output
end
end Go.Proofs.YtkmocipdekogkaaGreatDoor
end
section
namespace Go.Proofs.YtkmocipdekogkaaGreatDoor
set_option linter.unusedVariables false
set_option linter.unusedSimpArgs false
set_option linter.unusedSectionVars false
open Go.RowKit

theorem memA_ok {k : AV} : ∀ {l : List AV}, memA k l = true → k ∈ l
  | a :: r, h => by
    unfold memA at h
    cases h1 : beqV a k <;> rw [h1] at h <;> simp only [cond_true, cond_false] at h
    · exact List.mem_cons_of_mem _ (memA_ok h)
    · rw [beqV_eq _ _ h1]; exact List.mem_cons_self ..
theorem keyB_ok {l : List AV} : ∀ {D : List (Nat × Nat)}, keyB l D = true → ∀ c b, (c, b) ∈ D → (c = 0 → b < 15 ∧ AV.sym 0 b ∈ l) ∧ c ≠ 9
  | p :: r, h, c, b, hc => by
    unfold keyB at h
    obtain ⟨h1, h2⟩ := bif_and h
    rcases List.mem_cons.1 hc with rfl | hc
    · simp only at h1
      cases h0 : Nat.beq c 0 <;> rw [h0] at h1 <;> simp only [cond_true, cond_false] at h1
      · exact ⟨fun h => (by subst h; cases h0), fun h => (by subst h; cases h1)⟩
      · obtain ⟨q1, q2⟩ := bif_and h1
        have e0 := Nat.eq_of_beq_eq_true h0
        exact ⟨fun _ => ⟨Nat.le_of_ble_eq_true q1, memA_ok q2⟩, by omega⟩
    · exact keyB_ok h2 c b hc
theorem symAll_ok {D : List (Nat × Nat)} : ∀ {l : List (List AV)}, symAll D l = true → ∀ c ∈ l, symB D c = true
  | a :: r, h, c, hc => by
    unfold symAll at h
    obtain ⟨h1, h2⟩ := bif_and h
    rcases List.mem_cons.1 hc with rfl | hc
    · exact h1
    · exact symAll_ok h2 c hc
theorem queriesE_ok {κ : Sc} {s : St} : ∀ {l : List AV}, queriesE κ s l = true → ∀ k ∈ l, queryE κ s k = true
  | a :: r, h, c, hc => by
    unfold queriesE at h
    obtain ⟨h1, h2⟩ := bif_and h
    rcases List.mem_cons.1 hc with rfl | hc
    · exact h1
    · exact queriesE_ok h2 c hc
theorem inB_ok {c : List AV} : ∀ {L : List (List AV)}, inB L c = true → c ∈ L
  | [], h => by cases h
  | l :: r, h => by
    have h' : (bif beqVs l c then true else inB r c) = true := h
    cases h1 : beqVs l c <;> rw [h1] at h' <;> simp only [cond_true, cond_false] at h'
    · exact List.mem_cons_of_mem _ (inB_ok h')
    · rw [beqVs_eq _ _ h1]; exact List.mem_cons_self ..
theorem rowsB_ok {L : List (List AV)} : ∀ (n : Nat) {cs : List AV}, rowsB L n cs = true → ∀ k, k < n → (cs.drop (8 * k)).take 8 ∈ L
  | 0, cs, _, k, hk => by omega
  | n + 1, cs, h, k, hk => by
    have h' : (bif inB L (takeL 8 cs) then rowsB L n (dropL 8 cs) else false) = true := h
    obtain ⟨h1, h2⟩ := bif_and h'
    rw [takeL_eq] at h1
    rw [dropL_eq] at h2
    cases k with
    | zero => exact inB_ok h1
    | succ k =>
      have := rowsB_ok n h2 k (by omega)
      rw [List.drop_drop] at this
      rw [show 8 * (k + 1) = 8 + 8 * k by omega]
      exact this
/-- A slice of spans that came. -/
def QOk (T : List (List Value)) (w : World) (x : Value) : Prop := x = .slice none 0 0 ∨ ∃ (g o n c : Nat) (row : Array Value) (ty : TypeId), x = .slice (some ⟨g, o, none⟩) n c ∧ w.heap[g]? = some (.cells row ty (0, 0)) ∧ n ≤ c ∧ n ≤ 1000 ∧ ∀ k, k < n → ∃ r ∈ T, r.length = 8 ∧ (row.toList.drop (o + 8 * k)).take 8 = r
theorem rls_sym_eq {E : Env} {D : List (Nat × Nat)} : ∀ {l : List AV} {r q : List Value}, symB D l = true → Rls E l r → Rls E l q → r = q
  | [], _, _, _, .nil, .nil => rfl
  | .sym c b :: l, _, _, hs, .cons h1 h2, .cons k1 k2 => by
    simp only [symB] at hs
    obtain ⟨q0, hs⟩ := bif_and hs
    obtain ⟨q1, q2⟩ := bif_and hs
    cases h1 with | sym hv _ _ =>
    cases k1 with | sym hv' _ _ =>
    rw [hv] at hv'
    cases hv'
    rw [rls_sym_eq q2 h2 k2]
  | .bool _ :: _, _, _, hs, _, _ => by simp [symB] at hs
  | .int _ _ :: _, _, _, hs, _, _ => by simp [symB] at hs
  | .str _ :: _, _, _, hs, _, _ => by simp [symB] at hs
  | .nilp :: _, _, _, hs, _, _ => by simp [symB] at hs
  | .ptr _ _ :: _, _, _, hs, _, _ => by simp [symB] at hs
  | .nils :: _, _, _, hs, _, _ => by simp [symB] at hs
  | .sl _ _ _ _ :: _, _, _, hs, _, _ => by simp [symB] at hs
  | .slo _ _ _ :: _, _, _, hs, _, _ => by simp [symB] at hs
  | .slz :: _, _, _, hs, _, _ => by simp [symB] at hs
  | .nilm :: _, _, _, hs, _, _ => by simp [symB] at hs
  | .mp _ :: _, _, _, hs, _, _ => by simp [symB] at hs
  | .fn _ _ _ :: _, _, _, hs, _, _ => by simp [symB] at hs
  | .nilf :: _, _, _, hs, _, _ => by simp [symB] at hs
  | .ifc _ _ :: _, _, _, hs, _, _ => by simp [symB] at hs
  | .nili :: _, _, _, hs, _, _ => by simp [symB] at hs
  | .agg _ :: _, _, _, hs, _, _ => by simp [symB] at hs
  | .tup _ :: _, _, _, hs, _, _ => by simp [symB] at hs
  | .any :: _, _, _, hs, _, _ => by simp [symB] at hs
  | .bad :: _, _, _, hs, _, _ => by simp [symB] at hs
  | .anyi _ :: _, _, _, hs, _, _ => by simp [symB] at hs
  | .anyb :: _, _, _, hs, _, _ => by simp [symB] at hs
  | .upto _ _ :: _, _, _, hs, _, _ => by simp [symB] at hs
  | .slu _ _ _ _ :: _, _, _, hs, _, _ => by simp [symB] at hs
  | .sl0 :: _, _, _, hs, _, _ => by simp [symB] at hs
  | .yld _ :: _, _, _, hs, _, _ => by simp [symB] at hs
theorem okQ_ok {L : List (List AV)} {D : List (Nat × Nat)} {v : AV} {s : St} (h : okQ L v s = true) (hL : ∀ c ∈ L, symB D c = true) (hl8 : ∀ c ∈ L, c.length = 8) {E : Env} {w : World} {v' : Value} (R : Rel E s w) (hv : Rl E v v') {T : List (List Value)} (hs : SpansOk E L T) :
    ∃ x, v' = .tuple #[x, .int .i64 0] ∧ QOk T w x := by
  unfold okQ at h
  split at h
  · cases hv with | tup hl =>
    cases hl with | cons h1 hl =>
    cases hl with | cons h2 hl =>
    cases hl
    cases h1
    cases h2
    exact ⟨_, rfl, .inl rfl⟩
  · rename_i b n
    cases hv with | tup hl =>
    cases hl with | cons h1 hl =>
    cases hl with | cons h2 hl =>
    cases hl
    cases h2
    cases h1 with | slo _ _ c hE hc hle =>
    rename_i l
    refine ⟨_, rfl, .inr ?_⟩
    obtain ⟨h1000, h⟩ := bif_and h
    split at h
    · rename_i cs hrow
      have hget : s.h.get b = some (.row cs 8) := by
        unfold St.rowAt at hrow
        split at hrow
        · rename_i cs' sz' hg
          cases hrow
          exact hg
        · cases hrow
      obtain ⟨k1, k2, row, ty, pre, vs, post, k3, k4, k5, k6, k7⟩ := R.obj _ _ _ hget hE
      refine ⟨l.g, l.sh + 0, n, c, row, ty, rfl, k3, hle, Nat.le_of_ble_eq_true h1000, fun k hk => ?_⟩
      have hm := rowsB_ok n h k hk
      obtain ⟨r, hr, hr2⟩ := hs _ hm
      have hr3 : Rls E ((cs.drop (8 * k)).take 8) ((vs.drop (8 * k)).take 8) := (k6.drop _).take _
      have he := rls_sym_eq (hL _ hm) hr3 hr2
      have hlen := hr2.length
      rw [hl8 _ hm] at hlen
      refine ⟨r, hr, hlen, ?_⟩
      have h8 : ((vs.drop (8 * k)).take 8).length = 8 := by rw [he]; exact hlen
      have hvl : 8 * k + 8 ≤ vs.length := by
        simp only [List.length_take, List.length_drop] at h8
        omega
      rw [← he, k4, List.append_assoc, Nat.add_zero, ← k5, ← List.drop_drop, List.drop_left, List.drop_append_of_le_length (by omega), List.take_append_of_le_length (by simp only [List.length_drop]; omega)]
    · cases h
  · cases h
theorem key_pick {κ : Sc} {s : St} {E : Env} {w : World} {fl : Loc} {T : List (List Value)} {K : Nat → Prop} (H : AtF κ s E w fl T K) (hk : keyB κ.keys κ.dom = true) (h15 : memA (.sym 0 15) κ.keys = true) {t : Nat} (ht : 0 < t ∧ t < 2 ^ 64) :
    ∃ k ∈ κ.keys, ∃ E1, VLe E E1 ∧ Facts E1 ∧ Rl E1 k (.int .u64 t) := by
  by_cases h : ∃ b, E.val 0 b = some (.int .u64 t)
  · obtain ⟨b, hb⟩ := h
    exact ⟨_, ((keyB_ok hk _ _ (H.dom _ _ _ hb)).1 rfl).2, E, ⟨fun _ => rfl, rfl, fun _ _ _ h => h⟩, H.rel.facts, .sym hb (by omega) rfl⟩
  · have hn : E.val 0 15 = none := by
      cases hv : E.val 0 15 with
      | none => rfl
      | some v => have := ((keyB_ok hk _ _ (H.dom _ _ _ hv)).1 rfl).1; omega
    refine ⟨_, memA_ok h15, E.upd 0 15 (.int .u64 t), upd_le _ hn, facts_upd H.rel.facts (clsNum (by omega) ht.1 ht.2) (fun h => by omega) (fun _ b u hb hu => ?_), .sym (upd_same ..) (by omega) rfl⟩
    have hb15 := ((keyB_ok hk _ _ (H.dom _ _ _ hu)).1 rfl).1
    exact ⟨fun _ h' => by omega, fun h' => by omega, fun _ _ he => h ⟨b, by rw [hu, he]⟩, fun h' => by omega⟩
theorem all8 (κ : Sc) : ∀ c ∈ κ.all, c.length = 8 := by
  have key : ∀ second, ∀ c ∈ κ.spans second, c.length = 8 := by
    intro second c hc
    unfold Sc.spans at hc
    split at hc
    · cases hc
    · simp only [List.mem_cons, List.not_mem_nil, or_false] at hc; subst hc; rfl
    · simp only [List.mem_cons, List.not_mem_nil, or_false] at hc
      rcases hc with rfl | rfl <;> rfl
  intro c hc
  unfold Sc.all at hc
  split at hc
  · cases hc
  · exact key _ c hc
  · rcases List.mem_append.1 hc with h | h
    · exact key _ c h
    · exact key _ c h
theorem query_at {κ : Sc} {s : St} {E : Env} {w : World} {fl : Loc} {T : List (List Value)} {K : Nat → Prop} (H : AtF κ s E w fl T K) (hK : ∀ g, K g → g < w.heap.size) {t : Nat} (ht : 0 < t ∧ t < 2 ^ 64) :
    Calls Tryz.prog 15 #[.pointer (some ⟨fl.g, fl.sh + 0, none⟩), .int .u64 t] w fun e w' => (∃ x, e = .returned (.tuple #[x, .int .i64 0]) ∧ QOk T w' x) ∧ (∃ E', AtF κ s E' w' fl T K) ∧ Kept K w w' := by
  have hf := H.fin
  unfold finE at hf
  obtain ⟨_, hf⟩ := bif_and hf
  obtain ⟨f1, hf⟩ := bif_and hf
  obtain ⟨f2, hf⟩ := bif_and hf
  obtain ⟨f3, f4⟩ := bif_and hf
  obtain ⟨k, hk, E1, v1, Fa1, hr⟩ := key_pick H f2 f3 ht
  have h9 : ∀ b, (9, b) ∉ κ.dom := fun b hb => (keyB_ok f2 _ _ hb).2 rfl
  have R1 : Rel E1 s w := H.rel.vmono v1 Fa1
  have F1 : Fresh E1 s := fun b hb => (v1.at' b).trans (H.fresh b hb)
  have A1 : Apart E1 s K := fun b o lb hb hE => H.apart b o lb hb (by rw [← v1.at' b]; exact hE)
  have h2 : E1 2 = some fl := (v1.at' 2).trans H.at2
  have ha : Rls E1 [pP 2, k] [.pointer (some ⟨fl.g, fl.sh + 0, none⟩), .int .u64 t] := .cons (.ptr 0 h2) (.cons hr .nil)
  refine ((callF_ok JB tabF_ok tabF_sub tabF_flat tabF_x (fl := false) (conj := andB) (by simp) andB_ok (hookT_ok JB (by simp) andB_ok) 10000 100).1 15 _ _ _ E1 w _ (by decide) (queriesE_ok f1 k hk) R1 F1 ha).mono fun e w' he => ?_
  obtain ⟨v, s', E', v', rfl, hj, S, R', F', hv⟩ := he
  obtain ⟨j1, j2⟩ := bif_and hj
  have hs' : SpansOk E' κ.all T := fun c hc => by
    obtain ⟨r, q1, q2⟩ := H.spans c hc
    exact ⟨r, q1, (q2.vmono v1).mono S.le⟩
  obtain ⟨x, rfl, hq⟩ := okQ_ok j1 (symAll_ok f4) (all8 κ) R' hv hs'
  obtain ⟨a1, a2⟩ := A1.step S hK
  obtain ⟨c1, c2, c3⟩ := wkT_rel j2 (cut_wk E' s.nx κ.dom) (cut_facts R'.facts h9) R'
  have h2n : 2 < s.nx := by
    rcases Nat.lt_or_ge 2 s.nx with h | h
    · exact h
    · have := H.at2; rw [H.fresh 2 h] at this; cases this
  refine ⟨⟨x, rfl, hq⟩, ⟨E'.cut s.nx κ.dom, H.fin, c1, c2, fun c b v h => (cut_in h).1, ?_, fun c hc => ?_, fun b o l hb hE hk => ?_⟩, a2, S.size, S.tape, S.os, S.output⟩
  · show (if 2 < s.nx then E' 2 else none) = some fl
    rw [if_pos h2n]; exact S.le.1 _ _ h2
  · obtain ⟨r, q1, q2⟩ := hs' c hc
    refine ⟨r, q1, rls_sym (D := κ.dom) (fun d b v hm hv => ?_) (symAll_ok f4 c hc) q2⟩
    show (if (d, b) ∈ κ.dom then E'.val d b else none) = some v
    rw [if_pos hm]; exact hv
  · obtain ⟨o', q1, q2⟩ := c3 b o l hb hE
    exact a1 b o' l q1 q2 hk
theorem pend_at {κ : Sc} {s : St} {E : Env} {w : World} {fl : Loc} {T : List (List Value)} {K : Nat → Prop} (H : AtF κ s E w fl T K) (hK : ∀ g, K g → g < w.heap.size) :
    Calls Tryz.prog 16 #[.pointer (some ⟨fl.g, fl.sh + 0, none⟩)] w fun e w' => e = .returned (.int .i64 0) ∧ Kept K w w' := by
  have hf := H.fin
  unfold finE at hf
  obtain ⟨f0, _⟩ := bif_and hf
  have ha : Rls E [pP 2] [.pointer (some ⟨fl.g, fl.sh + 0, none⟩)] := .cons (.ptr 0 H.at2) .nil
  refine ((callF_ok JB tabF_ok tabF_sub tabF_flat tabF_x (fl := false) (conj := andB) (by simp) andB_ok (hookT_ok JB (by simp) andB_ok) 10000 100).1 16 _ _ _ E w _ (by decide) f0 H.rel H.fresh ha).mono fun e w' he => ?_
  obtain ⟨v, s', E', v', rfl, hj, S, R', F', hv⟩ := he
  have := beqV_eq _ _ (show beqV v (nI 0) = true from hj)
  subst this
  cases hv
  obtain ⟨a1, a2⟩ := H.apart.step S hK
  exact ⟨rfl, a2, S.size, S.tape, S.os, S.output⟩
end Go.Proofs.YtkmocipdekogkaaGreatDoor
end
section
namespace Go.Proofs.YtkmocipdekogkaaGreatDoor
set_option linter.unusedVariables false
set_option linter.unusedSimpArgs false
set_option linter.unusedSectionVars false
open Go.RowKit
section
noncomputable abbrev NT : Nat := Tryz.f14.ntmps
/-- The loop's rounds i to i + m, from a state that is written out to another. -/
noncomputable def PieceT (i m : Nat) (S S' : St) : Prop := ∀ (E : Env) (w : World) (a : Act), Rel E S w → Fresh E S → TRel E mk14 NT (tmS (lI i)) a → ∀ (Q : Exit → Act → World → Prop) (n : Nat),
  (∀ E' w' a', Step E S w E' S' w' → Rel E' S' w' → Fresh E' S' → TRel E' mk14 NT (tmS (lI (i + m))) a' → Code.rounds Tryz.prog cBody Q n a' w') → Code.rounds Tryz.prog cBody Q (n + m) a w
noncomputable def pieceD (m i : Nat) (S S' : St) : Bool := ticksD m i S (fun s _ => subS S' s) []
theorem pieceT_run {m i : Nat} {S S' : St} (h : pieceD m i S S' = true) : PieceT i m S S' := by
  intro E w a R F hr Q n hk
  have hj : JD (ticksD m i S (fun s _ => subS S' s)) := .fin h
  refine ticksD_ok (E0 := E) (s0 := S) (w0 := w) m i S (fun s' E' w' a' g1 g2 g3 g4 g5 => ?_) E w a hj (Step.refl E S w) R F hr
  have hs := JD.const g1
  obtain ⟨R2, F2⟩ := subS_rel hs g3 g4
  exact hk E' w' a' (subS_to hs g2) R2 F2 g5
theorem PieceT.join {i m m' : Nat} {S S' S2 : St} (p : PieceT i m S S') (q : PieceT (i + m) m' S' S2) : PieceT i (m' + m) S S2 := by
  intro E w a R F hr Q n hk
  rw [show n + (m' + m) = (n + m') + m by omega]
  refine p E w a R F hr Q (n + m') fun E1 w1 a1 K1 R1 F1 T1 => q E1 w1 a1 R1 F1 T1 Q n fun E2 w2 a2 K2 R2 F2 T2 => hk E2 w2 a2 (K1.trans K2) R2 F2 ?_
  rw [show i + (m' + m) = i + m + m' by omega]
  exact T2
noncomputable def frameB (S S' s : St) (k : St → BD) : BD := bif subS S s then (bif ltT s.nx (difT s.h S.h) (fun j => j) then frSt (frS S' S s) k else flD) else flD
theorem frameB_ok {i m : Nat} {S S' s : St} {k : St → BD} (p : PieceT i m S S') (h : JD (frameB S S' s k)) {E : Env} {w : World} {a : Act} (R : Rel E s w) (F : Fresh E s) (hr : TRel E mk14 NT (tmS (lI i)) a) {Q : Exit → Act → World → Prop} {n : Nat}
    (hk : ∀ s' E' w' a', JD (k s') → Step E s w E' s' w' → Rel E' s' w' → Fresh E' s' → TRel E' mk14 NT (tmS (lI (i + m))) a' → Code.rounds Tryz.prog cBody Q n a' w') : Code.rounds Tryz.prog cBody Q (n + m) a w := by
  unfold frameB at h
  cases h1 : subS S s <;> rw [h1] at h <;> simp only [cond_true, cond_false] at h
  case false => exact absurd h flD_no
  cases h2 : ltT s.nx (difT s.h S.h) (fun j => j) <;> rw [h2] at h <;> simp only [cond_true, cond_false] at h
  case false => exact absurd h flD_no
  rw [frSt_eq] at h
  obtain ⟨R1, F1⟩ := subS_rel h1 R F
  refine p E w a R1 F1 hr Q n fun E' w' a' K2 R2 F2 T2 => ?_
  obtain ⟨K', R', F'⟩ := frame_step h1 h2 R F K2 R2 F2
  exact hk _ E' w' a' h K' R' F' T2
/-! ### What stays -/
structure InvC (D : List (Nat × Nat)) (fl : Loc) (L : List (List AV)) (T : List (List Value)) (K : Nat → Prop) (w0 : World) (E : Env) (s : St) (w : World) : Prop where
  dom : ∀ c b v, E.val c b = some v → (c, b) ∈ D
  at2 : E 2 = some fl
  spans : SpansOk E L T
  apart : Apart E s K
  kept : Kept K w0 w
section
variable {D : List (Nat × Nat)} {fl : Loc} {L : List (List AV)} {T : List (List Value)} {K : Nat → Prop} {w0 : World}
theorem InvC.step (hK : ∀ g, K g → g < w0.heap.size) {E E' : Env} {s s' : St} {w w' : World} (H : InvC D fl L T K w0 E s w) (S : Step E s w E' s' w') : InvC D fl L T K w0 E' s' w' := by
  have hK' : ∀ g, K g → g < w.heap.size := fun g hg => Nat.lt_of_lt_of_le (hK g hg) H.kept.size
  obtain ⟨a1, a2⟩ := H.apart.step S hK'
  exact ⟨fun c b v h => H.dom c b v (by rw [← S.le.2.1]; exact h), S.le.1 _ _ H.at2, fun c hc => by
    obtain ⟨r, h1, h2⟩ := H.spans c hc
    exact ⟨r, h1, h2.mono S.le⟩, a1, fun q hq => (a2 q hq).trans (H.kept.heap q hq), Nat.le_trans H.kept.size S.size, S.tape.trans H.kept.tape, S.os.trans H.kept.os, S.output.trans H.kept.output⟩
/-! ### One state among some -/
/-- Its size, its objects; the piece's first state and its last. -/
structure Cand where
  n : Nat
  l : List (Nat × AO)
  V : St
  W : St
theorem matchL_ex {γ : Type} {S s : Tr AO} : ∀ {n : Nat} {todo acc : List (Nat × Nat)} {k : List (Nat × Nat) → γ}, ∃ π, matchL S s n todo acc k = k π
  | 0, todo, acc, k => ⟨acc, rfl⟩
  | n + 1, [], acc, k => ⟨acc, rfl⟩
  | n + 1, (a, b) :: r, acc, k => by
    have h' : matchL S s (n + 1) ((a, b) :: r) acc k = (bif hasN a acc then matchL S s n r acc k else frcB a fun a => frcB b fun b => match S.get a, s.get b with
      | some o, some o' => matchL S s n (prO o o' r) ((a, b) :: acc) k
      | _, _ => matchL S s n r ((a, b) :: acc) k) := rfl
    rw [h', frcB_eq, frcB_eq]
    cases hh : hasN a acc <;> simp only [cond_true, cond_false]
    · split
      · exact matchL_ex
      · exact matchL_ex
    · exact matchL_ex
noncomputable def lV (i : Nat) : List AV := (lI i).map (·.2)
noncomputable def candsB (D : List (Nat × Nat)) (i : Nat) : List Cand → St → BD
  | [], _ => flD
  | c :: r, s => matchL (mkS c.n c.l).h s.h 400 [(2, 2)] [] fun π => bif (bif Nat.beq (asN π 2) 2 then (bif wkS 0 (asN π) (idR D) (c.l.map (·.1)) (mkS c.n c.l) s then wkVs 0 (asN π) (idR D) c.n (lV i) (lV i) else false) else false)
      then (fun _ => true) else candsB D i r s
theorem wkVs_mem {d : Nat} {f : Nat → Nat} {ρ : SyR} {n : Nat} : ∀ {l : List AV}, wkVs d f ρ n l l = true → ∀ v ∈ l, wkV d f ρ n v v = true
  | a :: r, h, v, hv => by
    simp only [wkVs] at h
    obtain ⟨h1, h2⟩ := bif_and h
    rcases List.mem_cons.1 hv with rfl | hv
    · exact h1
    · exact wkVs_mem h2 v hv
theorem tmS_wk {i n : Nat} {ρ : SyR} {f : Nat → Nat} {E E2 : Env} (W : WkE 0 f ρ n E E2) (h : wkVs 0 f ρ n (lV i) (lV i) = true) {a : Act} (hr : TRel E mk14 NT (tmS (lI i)) a) : TRel E2 mk14 NT (tmS (lI i)) a := by
  refine ⟨hr.size, hr.defers, fun j v hv => ?_⟩
  have h1 := hr.val j v hv
  rw [tm_get] at hv
  split at hv
  · have hin := get_setsT (lI i) j v hv
    exact h1.wk W (wkVs_mem h v (List.mem_map.2 ⟨_, hin, rfl⟩))
  · cases hv
theorem candsB_ok (hK : ∀ g, K g → g < w0.heap.size) (h9 : ∀ b, (9, b) ∉ D) (hL : ∀ c ∈ L, symB D c = true) {i m : Nat} {k : St → BD} {Q : Exit → Act → World → Prop} {n : Nat}
    (hk : ∀ s' E' w' a', JD (k s') → InvC D fl L T K w0 E' s' w' → Rel E' s' w' → Fresh E' s' → TRel E' mk14 NT (tmS (lI (i + m))) a' → Code.rounds Tryz.prog cBody Q n a' w') :
    ∀ {cs : List Cand} {s : St} {E : Env} {w : World} {a : Act}, (∀ c ∈ cs, PieceT i m c.V c.W ∧ JD (frameB c.V c.W (mkS c.n c.l) k)) → JD (candsB D i cs s) → InvC D fl L T K w0 E s w → Rel E s w → Fresh E s → TRel E mk14 NT (tmS (lI i)) a → Code.rounds Tryz.prog cBody Q (n + m) a w
  | [], s, E, w, a, hp, h, H, R, F, hr => absurd h flD_no
  | c :: r, s, E, w, a, hp, h, H, R, F, hr => by
    unfold candsB at h
    obtain ⟨π, hπ⟩ := matchL_ex (S := (mkS c.n c.l).h) (s := s.h) (n := 400) (todo := [(2, 2)]) (acc := []) (k := fun π => bif (bif Nat.beq (asN π 2) 2 then (bif wkS 0 (asN π) (idR D) (c.l.map (·.1)) (mkS c.n c.l) s then wkVs 0 (asN π) (idR D) c.n (lV i) (lV i) else false) else false)
      then (fun _ => true : BD) else candsB D i r s)
    rw [hπ] at h
    cases hc : (bif Nat.beq (asN π 2) 2 then (bif wkS 0 (asN π) (idR D) (c.l.map (·.1)) (mkS c.n c.l) s then wkVs 0 (asN π) (idR D) c.n (lV i) (lV i) else false) else false) <;> rw [hc] at h <;> simp only [cond_true, cond_false] at h
    · exact candsB_ok hK h9 hL hk (fun c hc => hp c (List.mem_cons_of_mem _ hc)) h H R F hr
    · obtain ⟨q1, hc⟩ := bif_and hc
      obtain ⟨q2, q3⟩ := bif_and hc
      have e2 := Nat.eq_of_beq_eq_true q1
      have W := cutTo_wk E c.n (asN π) D 0
      obtain ⟨R2, F2, a2⟩ := wk_rel (m := c.n) (l := c.l) q2 W (cutTo_facts R.facts (by have := R.facts.base; omega) h9) R F
      have h2n : 2 < c.n := by
        have hm : wkV 0 (asN π) (idR D) c.n (pP 2) (pP 2) = true := wkVs_mem q3 _ (List.mem_cons_self ..)
        have hm' : (bif Nat.ble (Nat.add 2 1) c.n then (bif Nat.beq (asN π 2) 2 then Nat.beq 0 0 else false) else false) = true := hm
        have := Nat.le_of_ble_eq_true (bif_and hm').1
        exact this
      have H2 : InvC D fl L T K w0 (E.cutTo c.n (asN π) D 0) (mkS c.n c.l) w := ⟨fun c b v h => (cutTo_in h).1, by
          show (if 2 < c.n then E (asN π 2) else none) = some fl
          rw [if_pos h2n, e2]; exact H.at2, fun c hc => by
          obtain ⟨r, g1, g2⟩ := H.spans c hc
          exact ⟨r, g1, rls_sym (fun d b v hm hv => by rw [cutTo_val hm]; exact hv) (hL c hc) g2⟩, fun b o l hb hE hk => by
          obtain ⟨b', o', g1, g2⟩ := a2 b o l hb hE
          exact H.apart b' o' l g1 g2 hk, H.kept⟩
      obtain ⟨p1, p2⟩ := hp c (List.mem_cons_self ..)
      exact frameB_ok p1 p2 R2 F2 (tmS_wk W q3 hr) fun s' E' w' a' g1 g2 g3 g4 g5 => hk s' E' w' a' g1 (H2.step hK g2) g3 g4 g5
end
/-! ### The end -/
noncomputable def finD (κ : Sc) (s : St) : BD := frSt (gcF s) fun s _ => finE κ s
/-- Behind a calm. -/
def Calmed (fl : Loc) (T : List (List Value)) (K : Nat → Prop) (w0 w : World) : Prop := (∃ κ s E, AtF κ s E w fl T K) ∧ Kept K w0 w
theorem fin_at {κ : Sc} {fl : Loc} {T : List (List Value)} {K : Nat → Prop} {w0 : World} (hK : ∀ g, K g → g < w0.heap.size) {E : Env} {s : St} {w : World} (h : JD (finD κ s)) (H : InvC κ.dom fl κ.all T K w0 E s w) (R : Rel E s w) (F : Fresh E s) : Calmed fl T K w0 w := by
  refine ⟨?_, H.kept⟩
  unfold finD at h
  rw [frSt_eq] at h
  have hf := JD.const h
  obtain ⟨R1, F1⟩ := gcF_rel R F
  have H1 : InvC κ.dom fl κ.all T K w0 E (gcF s) w := H.step hK (gcF_to (Step.refl E s w))
  exact ⟨κ, gcF s, E, hf, R1, F1, H1.dom, H1.at2, H1.spans, H1.apart⟩
/-- A calm from a form: rounds 0 to 5 by a piece, the sixth run; then one of some states stands there. -/
noncomputable def calmD (κ : Sc) (I I' : St) (cs : List Cand) : BD := preD (scS κ) fun s => frameB I I' s fun s => tickD 5 s fun s => candsB κ.dom 6 cs s
/-- From such a state on: the other rounds by a piece, and the end. -/
noncomputable def restD (κ : Sc) (c : Cand) : BD := frameB c.V c.W (mkS c.n c.l) fun s => lastD 30 s (finD κ)
theorem calm_at {κ : Sc} {E : Env} {w : World} {fl : Loc} {T : List (List Value)} {K : Nat → Prop} (H : AtC κ E w fl T K) (hK : ∀ g, K g → g < w.heap.size) (h9 : ∀ b, (9, b) ∉ κ.dom) (hL : ∀ c ∈ κ.all, symB κ.dom c = true) {I I' : St} {cs : List Cand} (hI : PieceT 0 5 I I') (hcs : ∀ c ∈ cs, PieceT 6 24 c.V c.W ∧ JD (restD κ c))
    (hrun : JD (calmD κ I I' cs)) : Calls Tryz.prog 14 #[.pointer (some ⟨fl.g, fl.sh + 0, none⟩), .int .i64 30] w fun e w' => e = .returned (.tuple #[]) ∧ Calmed fl T K w w' := by
  have ha : Rls E [pP 2, nI 30] [.pointer (some ⟨fl.g, fl.sh + 0, none⟩), .int .i64 30] := .cons (.ptr 0 H.at2) (.cons (.int _ _) .nil)
  have H0 : InvC κ.dom fl κ.all T K w E (scS κ) w := ⟨H.dom, H.at2, H.spans, H.apart, fun _ _ => rfl, Nat.le_refl _, rfl, rfl, rfl⟩
  refine pre_ok (N := ((0 + 1) + 24 + 1) + 5) hrun H.rel H.fresh ha fun s1 E1 w1 a1 j1 K1 R1 F1 T1 => ?_
  refine frameB_ok (i := 0) (m := 5) hI j1 R1 F1 T1 fun s2 E2 w2 a2 j2 K2 R2 F2 T2 => ?_
  have H2 := (H0.step hK K1).step hK K2
  refine ticksD_ok (E0 := E2) (s0 := s2) (w0 := w2) 1 5 s2 (fun s3 E3 w3 a3 j3 K3 R3 F3 T3 => ?_) E2 w2 a2 j2 (Step.refl E2 s2 w2) R2 F2 T2
  refine candsB_ok (i := 6) (m := 24) (k := fun s => lastD 30 s (finD κ)) hK h9 hL (fun s4 E4 w4 a4 j4 H4 R4 F4 T4 => ?_) hcs j3 (H2.step hK K3) R3 F3 T3
  exact lastD_ok (n := 0) (fun s5 E5 w5 a5 e1 e2 e3 e4 e5 => ⟨rfl, e2, fin_at hK e1 (H4.step hK e3) e4 e5⟩) j4 (Step.refl E4 s4 w4) R4 F4 T4
end
end Go.Proofs.YtkmocipdekogkaaGreatDoor
end
