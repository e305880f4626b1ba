/-
  One more span: every form, every case.
  One more span: from a form to the next, by the span's own values.
  One more span: a round of the fleet's, from form to form.
  One more span: whichever it is.
  One more span: it is of one of the cases.
-/
import Derived.Test.YtkmocipdekogkaaGreatDoorDo1
import Derived.Test.YtkmocipdekogkaaGreatDoorDo2
import Derived.Test.YtkmocipdekogkaaGreatDoorDo3
import Derived.Test.YtkmocipdekogkaaGreatDoorDo4
import Derived.Test.YtkmocipdekogkaaGreatDoorAx
set_option linter.all false
section
namespace Go.Proofs.YtkmocipdekogkaaGreatDoor
def shapes : List Sh := [⟨0, true, (1, false), (0, false)⟩, ⟨1, true, (1, false), (0, false)⟩, ⟨1, true, (2, false), (0, false)⟩, ⟨1, true, (2, true), (0, false)⟩, ⟨2, true, (1, false), (1, false)⟩, ⟨2, true, (1, false), (2, false)⟩, ⟨2, true, (1, false), (2, true)⟩, ⟨2, true, (2, false), (1, false)⟩, ⟨2, true, (2, false), (2, false)⟩, ⟨2, true, (2, false), (2, true)⟩, ⟨2, true, (2, true), (1, false)⟩, ⟨2, true, (2, true), (2, false)⟩, ⟨2, true, (2, true), (2, true)⟩, ⟨2, false, (1, false), (1, false)⟩, ⟨2, false, (1, false), (2, false)⟩, ⟨2, false, (1, false), (2, true)⟩, ⟨2, false, (2, false), (1, false)⟩, ⟨2, false, (2, false), (2, false)⟩, ⟨2, false, (2, false), (2, true)⟩, ⟨2, false, (2, true), (1, false)⟩, ⟨2, false, (2, true), (2, false)⟩, ⟨2, false, (2, true), (2, true)⟩]
theorem do_all : ∀ σ ∈ shapes, ∀ κ ∈ casesOf σ, doB σ κ = true := by
  intro σ hσ κ hκ
  simp only [shapes, List.mem_cons, List.not_mem_nil, or_false] at hσ
  rcases hσ with rfl | rfl | rfl | rfl | rfl | rfl | rfl | rfl | rfl | rfl | rfl | rfl | rfl | rfl | rfl | rfl | rfl | rfl | rfl | rfl | rfl | rfl
  · simp only [casesOf, casesT, List.mem_cons, List.mem_append, List.cons_append, List.nil_append, List.not_mem_nil, or_false] at hκ
    subst hκ
    exact do_0_0
  · simp only [casesOf, casesT, List.mem_cons, List.mem_append, List.cons_append, List.nil_append, List.not_mem_nil, or_false] at hκ
    rcases hκ with rfl | rfl | rfl | rfl
    · exact do_1_0
    · exact do_1_1
    · exact do_1_2
    · exact do_1_3
  · simp only [casesOf, casesT, List.mem_cons, List.mem_append, List.cons_append, List.nil_append, List.not_mem_nil, or_false] at hκ
    rcases hκ with rfl | rfl | rfl | rfl | rfl
    · exact do_2_0
    · exact do_2_1
    · exact do_2_2
    · exact do_2_3
    · exact do_2_4
  · simp only [casesOf, casesT, List.mem_cons, List.mem_append, List.cons_append, List.nil_append, List.not_mem_nil, or_false] at hκ
    rcases hκ with rfl | rfl | rfl | rfl | rfl
    · exact do_3_0
    · exact do_3_1
    · exact do_3_2
    · exact do_3_3
    · exact do_3_4
  · simp only [casesOf, casesT, List.mem_cons, List.mem_append, List.cons_append, List.nil_append, List.not_mem_nil, or_false] at hκ
    rcases hκ with rfl | rfl | rfl | rfl | rfl
    · exact do_4_0
    · exact do_4_1
    · exact do_4_2
    · exact do_4_3
    · exact do_4_4
  · simp only [casesOf, casesT, List.mem_cons, List.mem_append, List.cons_append, List.nil_append, List.not_mem_nil, or_false] at hκ
    rcases hκ with rfl | rfl | rfl | rfl | rfl | rfl
    · exact do_5_0
    · exact do_5_1
    · exact do_5_2
    · exact do_5_3
    · exact do_5_4
    · exact do_5_5
  · simp only [casesOf, casesT, List.mem_cons, List.mem_append, List.cons_append, List.nil_append, List.not_mem_nil, or_false] at hκ
    rcases hκ with rfl | rfl | rfl | rfl | rfl | rfl
    · exact do_6_0
    · exact do_6_1
    · exact do_6_2
    · exact do_6_3
    · exact do_6_4
    · exact do_6_5
  · simp only [casesOf, casesT, List.mem_cons, List.mem_append, List.cons_append, List.nil_append, List.not_mem_nil, or_false] at hκ
    rcases hκ with rfl | rfl | rfl | rfl | rfl | rfl
    · exact do_7_0
    · exact do_7_1
    · exact do_7_2
    · exact do_7_3
    · exact do_7_4
    · exact do_7_5
  · simp only [casesOf, casesT, List.mem_cons, List.mem_append, List.cons_append, List.nil_append, List.not_mem_nil, or_false] at hκ
    rcases hκ with rfl | rfl | rfl | rfl | rfl | rfl | rfl
    · exact do_8_0
    · exact do_8_1
    · exact do_8_2
    · exact do_8_3
    · exact do_8_4
    · exact do_8_5
    · exact do_8_6
  · simp only [casesOf, casesT, List.mem_cons, List.mem_append, List.cons_append, List.nil_append, List.not_mem_nil, or_false] at hκ
    rcases hκ with rfl | rfl | rfl | rfl | rfl | rfl | rfl
    · exact do_9_0
    · exact do_9_1
    · exact do_9_2
    · exact do_9_3
    · exact do_9_4
    · exact do_9_5
    · exact do_9_6
  · simp only [casesOf, casesT, List.mem_cons, List.mem_append, List.cons_append, List.nil_append, List.not_mem_nil, or_false] at hκ
    rcases hκ with rfl | rfl | rfl | rfl | rfl | rfl
    · exact do_10_0
    · exact do_10_1
    · exact do_10_2
    · exact do_10_3
    · exact do_10_4
    · exact do_10_5
  · simp only [casesOf, casesT, List.mem_cons, List.mem_append, List.cons_append, List.nil_append, List.not_mem_nil, or_false] at hκ
    rcases hκ with rfl | rfl | rfl | rfl | rfl | rfl | rfl
    · exact do_11_0
    · exact do_11_1
    · exact do_11_2
    · exact do_11_3
    · exact do_11_4
    · exact do_11_5
    · exact do_11_6
  · simp only [casesOf, casesT, List.mem_cons, List.mem_append, List.cons_append, List.nil_append, List.not_mem_nil, or_false] at hκ
    rcases hκ with rfl | rfl | rfl | rfl | rfl | rfl | rfl
    · exact do_12_0
    · exact do_12_1
    · exact do_12_2
    · exact do_12_3
    · exact do_12_4
    · exact do_12_5
    · exact do_12_6
  · simp only [casesOf, casesT, List.mem_cons, List.mem_append, List.cons_append, List.nil_append, List.not_mem_nil, or_false] at hκ
    rcases hκ with rfl | rfl | rfl | rfl | rfl
    · exact do_13_0
    · exact do_13_1
    · exact do_13_2
    · exact do_13_3
    · exact do_13_4
  · simp only [casesOf, casesT, List.mem_cons, List.mem_append, List.cons_append, List.nil_append, List.not_mem_nil, or_false] at hκ
    rcases hκ with rfl | rfl | rfl | rfl | rfl | rfl
    · exact do_14_0
    · exact do_14_1
    · exact do_14_2
    · exact do_14_3
    · exact do_14_4
    · exact do_14_5
  · simp only [casesOf, casesT, List.mem_cons, List.mem_append, List.cons_append, List.nil_append, List.not_mem_nil, or_false] at hκ
    rcases hκ with rfl | rfl | rfl | rfl | rfl | rfl
    · exact do_15_0
    · exact do_15_1
    · exact do_15_2
    · exact do_15_3
    · exact do_15_4
    · exact do_15_5
  · simp only [casesOf, casesT, List.mem_cons, List.mem_append, List.cons_append, List.nil_append, List.not_mem_nil, or_false] at hκ
    rcases hκ with rfl | rfl | rfl | rfl | rfl | rfl
    · exact do_16_0
    · exact do_16_1
    · exact do_16_2
    · exact do_16_3
    · exact do_16_4
    · exact do_16_5
  · simp only [casesOf, casesT, List.mem_cons, List.mem_append, List.cons_append, List.nil_append, List.not_mem_nil, or_false] at hκ
    rcases hκ with rfl | rfl | rfl | rfl | rfl | rfl | rfl
    · exact do_17_0
    · exact do_17_1
    · exact do_17_2
    · exact do_17_3
    · exact do_17_4
    · exact do_17_5
    · exact do_17_6
  · simp only [casesOf, casesT, List.mem_cons, List.mem_append, List.cons_append, List.nil_append, List.not_mem_nil, or_false] at hκ
    rcases hκ with rfl | rfl | rfl | rfl | rfl | rfl | rfl
    · exact do_18_0
    · exact do_18_1
    · exact do_18_2
    · exact do_18_3
    · exact do_18_4
    · exact do_18_5
    · exact do_18_6
  · simp only [casesOf, casesT, List.mem_cons, List.mem_append, List.cons_append, List.nil_append, List.not_mem_nil, or_false] at hκ
    rcases hκ with rfl | rfl | rfl | rfl | rfl | rfl
    · exact do_19_0
    · exact do_19_1
    · exact do_19_2
    · exact do_19_3
    · exact do_19_4
    · exact do_19_5
  · simp only [casesOf, casesT, List.mem_cons, List.mem_append, List.cons_append, List.nil_append, List.not_mem_nil, or_false] at hκ
    rcases hκ with rfl | rfl | rfl | rfl | rfl | rfl | rfl
    · exact do_20_0
    · exact do_20_1
    · exact do_20_2
    · exact do_20_3
    · exact do_20_4
    · exact do_20_5
    · exact do_20_6
  · simp only [casesOf, casesT, List.mem_cons, List.mem_append, List.cons_append, List.nil_append, List.not_mem_nil, or_false] at hκ
    rcases hκ with rfl | rfl | rfl | rfl | rfl | rfl | rfl
    · exact do_21_0
    · exact do_21_1
    · exact do_21_2
    · exact do_21_3
    · exact do_21_4
    · exact do_21_5
    · exact do_21_6
end Go.Proofs.YtkmocipdekogkaaGreatDoor
end
section
namespace Go.Proofs.YtkmocipdekogkaaGreatDoor
set_option linter.unusedVariables false
set_option linter.unusedSimpArgs false
set_option linter.unusedSectionVars false
open Go.RowKit

def Sh.all (σ : Sh) : List (List AV) := match σ.t with
  | 0 => []
  | 1 => σ.spans false
  | _ => σ.spans false ++ σ.spans true
def memS (p : Nat × Nat) : List (Nat × Nat) → Bool
  | [] => false
  | q :: r => bif Nat.beq q.1 p.1 then (bif Nat.beq q.2 p.2 then true else memS p r) else memS p r
theorem memS_iff (p : Nat × Nat) : ∀ (l : List (Nat × Nat)), memS p l = true ↔ p ∈ l
  | [] => by simp [memS]
  | q :: r => by
    have ih := memS_iff p r
    unfold memS
    obtain ⟨a, b⟩ := p
    obtain ⟨c, d⟩ := q
    simp only [List.mem_cons, Prod.mk.injEq]
    cases h1 : Nat.beq c a <;> simp only [cond_true, cond_false]
    · have : ¬ a = c := fun h => by subst h; rw [Nat.beq_refl] at h1; cases h1
      simp [this, ih]
    · cases h2 : Nat.beq d b <;> simp only [cond_true, cond_false]
      · have : ¬ b = d := fun h => by subst h; rw [Nat.beq_refl] at h2; cases h2
        simp [this, ih]
      · have e1 := Nat.eq_of_beq_eq_true h1
        have e2 := Nat.eq_of_beq_eq_true h2
        subst e1 e2
        simp
def symB (D : List (Nat × Nat)) : List AV → Bool
  | [] => true
  | .sym c b :: r => bif Nat.ble c 9 then (bif memS (c, b) D then symB D r else false) else false
  | _ :: _ => false
theorem rls_sym {E E' : Env} {D : List (Nat × Nat)} (h : ∀ c b v, (c, b) ∈ D → E.val c b = some v → E'.val c b = some v) : ∀ {l : List AV} {r : List Value}, symB D l = true → Rls E l r → Rls E' l r
  | [], _, _, .nil => .nil
  | .sym c b :: l, _, hs, .cons h1 h2 => by
    simp only [symB] at hs
    obtain ⟨q0, hs⟩ := bif_and hs
    obtain ⟨q1, q2⟩ := bif_and hs
    cases h1 with
    | sym hv hc ho => exact .cons (.sym (h _ _ _ ((memS_iff _ _).1 q1) hv) hc ho) (rls_sym h q2 h2)
  | .bool _ :: _, _, hs, _ => by simp [symB] at hs
  | .int _ _ :: _, _, hs, _ => by simp [symB] at hs
  | .str _ :: _, _, hs, _ => by simp [symB] at hs
  | .nilp :: _, _, hs, _ => by simp [symB] at hs
  | .ptr _ _ :: _, _, hs, _ => by simp [symB] at hs
  | .nils :: _, _, hs, _ => by simp [symB] at hs
  | .sl _ _ _ _ :: _, _, hs, _ => by simp [symB] at hs
  | .slo _ _ _ :: _, _, hs, _ => by simp [symB] at hs
  | .slz :: _, _, hs, _ => by simp [symB] at hs
  | .nilm :: _, _, hs, _ => by simp [symB] at hs
  | .mp _ :: _, _, hs, _ => by simp [symB] at hs
  | .fn _ _ _ :: _, _, hs, _ => by simp [symB] at hs
  | .nilf :: _, _, hs, _ => by simp [symB] at hs
  | .ifc _ _ :: _, _, hs, _ => by simp [symB] at hs
  | .nili :: _, _, hs, _ => by simp [symB] at hs
  | .agg _ :: _, _, hs, _ => by simp [symB] at hs
  | .tup _ :: _, _, hs, _ => by simp [symB] at hs
  | .any :: _, _, hs, _ => by simp [symB] at hs
  | .bad :: _, _, hs, _ => by simp [symB] at hs
  | .anyi _ :: _, _, hs, _ => by simp [symB] at hs
  | .anyb :: _, _, hs, _ => by simp [symB] at hs
  | .upto _ _ :: _, _, hs, _ => by simp [symB] at hs
  | .slu _ _ _ _ :: _, _, hs, _ => by simp [symB] at hs
  | .sl0 :: _, _, hs, _ => by simp [symB] at hs
  | .yld _ :: _, _, hs, _ => by simp [symB] at hs
def inL (c : List AV) : List (List AV) → Bool
  | [] => false
  | l :: r => bif beqVs l c then true else inL c r
theorem inL_mem {c : List AV} : ∀ {L : List (List AV)}, inL c L = true → c ∈ L
  | l :: r, h => by
    unfold inL at h
    cases h1 : beqVs l c <;> rw [h1] at h <;> simp only [cond_true, cond_false] at h
    · exact List.mem_cons_of_mem _ (inL_mem h)
    · rw [beqVs_eq _ _ h1]; exact List.mem_cons_self ..
def oldB (L : List (List AV)) (cs : List AV) (r : Nat) (D : List (Nat × Nat)) : List (List AV) → Bool
  | [] => true
  | c :: q => bif symB D c then (bif (bif inL c L then true else (bif Nat.beq r 0 then beqVs c cs else false)) then oldB L cs r D q else false) else false
theorem oldB_ok {L : List (List AV)} {cs : List AV} {r : Nat} {D : List (Nat × Nat)} : ∀ {q : List (List AV)}, oldB L cs r D q = true → ∀ c ∈ q, symB D c = true ∧ (c ∈ L ∨ (r = 0 ∧ c = cs))
  | [], _, c, hc => by cases hc
  | d :: q, h, c, hc => by
    unfold oldB at h
    obtain ⟨h1, h⟩ := bif_and h
    obtain ⟨h2, h3⟩ := bif_and h
    rcases List.mem_cons.1 hc with rfl | hc
    · refine ⟨h1, ?_⟩
      cases h4 : inL c L <;> rw [h4] at h2 <;> simp only [cond_true, cond_false] at h2
      · obtain ⟨h5, h6⟩ := bif_and h2
        exact .inr ⟨Nat.eq_of_beq_eq_true h5, beqVs_eq _ _ h6⟩
      · exact .inl (inL_mem h4)
    · exact oldB_ok h3 c hc
def freshJ (D : List (Nat × Nat)) (j : Nat) : Bool :=
  Bool.not (memS (4, j) D) && Bool.not (memS (3, 2 * j) D) && Bool.not (memS (3, 2 * j + 1) D) && Bool.not (memS (5, 2 * j) D) && Bool.not (memS (5, 2 * j + 1) D) && Bool.not (memS (6, j) D)
def okStep (σ : Sh) (κ : Cs) : Bool := match stepS σ κ with
  | some ([tr, id, .sym 4 j, a, b, c, d, e], r, σ') => decide (σ' ∈ shapes) && (bif Nat.beq r 0 then true else Nat.beq r 8) && oldB σ.all (spanA tr id j) r σ'.dom σ'.all && freshJ σ.dom j && beqVs [a, b, c, d, e] [.sym 3 (2 * j), .sym 3 (2 * j + 1), .sym 5 (2 * j), .sym 5 (2 * j + 1), .sym 6 j]
  | _ => false
def allC (σ : Sh) : List Cs → Bool
  | [] => true
  | κ :: r => bif okStep σ κ then allC σ r else false
def allS : List Sh → Bool
  | [] => true
  | σ :: r => bif allC σ (casesOf σ) then allS r else false
theorem steps_run : allS shapes = true := by kernel_rfl
theorem allC_ok {σ : Sh} : ∀ {l : List Cs}, allC σ l = true → ∀ κ ∈ l, okStep σ κ = true
  | [], _, κ, h => by cases h
  | a :: r, hs, κ, h => by
    unfold allC at hs
    obtain ⟨h1, h2⟩ := bif_and hs
    rcases List.mem_cons.1 h with rfl | h
    · exact h1
    · exact allC_ok h2 κ h
theorem allS_ok : ∀ {l : List Sh}, allS l = true → ∀ σ ∈ l, allC σ (casesOf σ) = true
  | [], _, σ, h => by cases h
  | a :: r, hs, σ, h => by
    unfold allS at hs
    obtain ⟨h1, h2⟩ := bif_and hs
    rcases List.mem_cons.1 h with rfl | h
    · exact h1
    · exact allS_ok h2 σ h
theorem step_ok {σ : Sh} (hσ : σ ∈ shapes) {κ : Cs} (hκ : κ ∈ casesOf σ) : okStep σ κ = true := allC_ok (allS_ok steps_run σ hσ) κ hκ
/-! ### A span's values under new names -/
def CanUpd (E : Env) (c k : Nat) (v : Value) : Prop := ∀ b u, b ≠ k → E.val c b = some u → (b < k → k ≤ 7 → natV u < natV v) ∧ (k < b → b ≤ 7 → natV v < natV u) ∧ (b < k → k ≤ 15 → u ≠ v) ∧ (k < b → b ≤ 15 → v ≠ u)
theorem add1 {E : Env} (Fa : Facts E) {c k : Nat} {v : Value} (hc : clsOk c v) (h9 : c ≠ 9) (h : E.val c k = some v ∨ (E.val c k = none ∧ (c ≤ 2 → CanUpd E c k v))) :
    ∃ E', VLe E E' ∧ Facts E' ∧ E'.val c k = some v ∧ ∀ c' b', ¬ (c' = c ∧ b' = k) → E'.val c' b' = E.val c' b' := by
  rcases h with h | ⟨h, hu⟩
  · exact ⟨E, ⟨fun _ => rfl, rfl, fun _ _ _ h => h⟩, Fa, h, fun _ _ _ => rfl⟩
  · exact ⟨E.upd c k v, upd_le v h, facts_upd Fa hc (fun h => absurd h h9) hu, upd_same E c k v, fun c' b' hn => upd_other E v hn⟩
theorem VLe.trans {E E' E'' : Env} (h : VLe E E') (k : VLe E' E'') : VLe E E'' := ⟨fun b => (k.at' b).trans (h.at' b), k.base.trans h.base, fun c b v hv => k.val c b v (h.val c b v hv)⟩
theorem clsNum {c n : Nat} (h : c ≤ 2) (h0 : 0 < n) (h1 : n < 2 ^ 64) : clsOk c (.int .u64 n) := ⟨fun _ => ⟨n, rfl, h0, h1⟩, fun h' => by omega, fun h' => by omega, fun h' => by omega, fun h' => by omega⟩
theorem cls3 {n : Nat} (h : n ≤ 2 ^ 40) : clsOk 3 (.int .u64 n) := ⟨fun h' => absurd h' (by omega), fun _ => ⟨n, rfl, h⟩, fun h' => by omega, fun h' => by omega, fun h' => by omega⟩
theorem cls4 {n : Nat} (h : n < 2 ^ 64) : clsOk 4 (.int .u64 n) := ⟨fun h' => absurd h' (by omega), fun h' => by omega, fun _ => ⟨n, rfl, h⟩, fun h' => by omega, fun h' => by omega⟩
theorem cls5 {u : ByteArray} (h : NameOk u) : clsOk 5 (.string u) := ⟨fun h' => absurd h' (by omega), fun h' => by omega, fun h' => by omega, fun _ => ⟨u, rfl, h.1, h.2.1, h.2.2⟩, fun h' => by omega⟩
theorem cls6 (b : Bool) : clsOk 6 (.bool b) := ⟨fun h' => absurd h' (by omega), fun h' => by omega, fun h' => by omega, fun h' => by omega, fun _ => ⟨b, rfl⟩⟩
theorem ext_span {E : Env} (Fa : Facts E) {t i p a l : Nat} {x y : ByteArray} {f : Bool} (ht : 0 < t ∧ t < 2 ^ 64) (hi : 0 < i ∧ i < 2 ^ 64) (hp : p < 2 ^ 64) (ha : a ≤ 2 ^ 40) (hl : l ≤ 2 ^ 40) (hx : NameOk x) (hy : NameOk y) {kt ci ki j : Nat} (hci : ci = 1 ∨ ci = 2)
    (hT : E.val 0 kt = some (.int .u64 t) ∨ (E.val 0 kt = none ∧ CanUpd E 0 kt (.int .u64 t))) (hI : E.val ci ki = some (.int .u64 i) ∨ (E.val ci ki = none ∧ CanUpd E ci ki (.int .u64 i)))
    (h4 : E.val 4 j = none) (h3 : E.val 3 (2 * j) = none) (h3' : E.val 3 (2 * j + 1) = none) (h5 : E.val 5 (2 * j) = none) (h5' : E.val 5 (2 * j + 1) = none) (h6 : E.val 6 j = none) :
    ∃ E3, VLe E E3 ∧ Facts E3 ∧ Rls E3 (spanA (.sym 0 kt) (.sym ci ki) j) (spanV t i p a l x y f).toList ∧ (∀ b, E3.val 9 b = E.val 9 b) := by
  obtain ⟨E1, v1, f1, q1, o1⟩ := add1 Fa (clsNum (c := 0) (by omega) ht.1 ht.2) (by omega) (hT.imp id fun h => ⟨h.1, fun _ => h.2⟩)
  obtain ⟨E2, v2, f2, q2, o2⟩ := add1 f1 (c := ci) (k := ki) (clsNum (by omega) hi.1 hi.2) (by omega) (by
    rcases hI with h | ⟨h, h'⟩
    · exact .inl (v1.val _ _ _ h)
    · exact .inr ⟨by rw [o1 _ _ (by omega)]; exact h, fun _ b u hb hu => h' b u hb (by rw [← o1 _ _ (by omega)]; exact hu)⟩)
  obtain ⟨E3, v3, f3, q3, o3⟩ := add1 f2 (c := 4) (k := j) (cls4 hp) (by omega) (.inr ⟨by rw [o2 _ _ (by omega), o1 _ _ (by omega)]; exact h4, fun h => absurd h (by omega)⟩)
  obtain ⟨E4, v4, f4, q4, o4⟩ := add1 f3 (c := 3) (k := 2 * j) (cls3 ha) (by omega) (.inr ⟨by rw [o3 _ _ (by omega), o2 _ _ (by omega), o1 _ _ (by omega)]; exact h3, fun h => absurd h (by omega)⟩)
  obtain ⟨E5, v5, f5, q5, o5⟩ := add1 f4 (c := 3) (k := 2 * j + 1) (cls3 hl) (by omega) (.inr ⟨by rw [o4 _ _ (by omega), o3 _ _ (by omega), o2 _ _ (by omega), o1 _ _ (by omega)]; exact h3', fun h => absurd h (by omega)⟩)
  obtain ⟨E6, v6, f6, q6, o6⟩ := add1 f5 (c := 5) (k := 2 * j) (cls5 hx) (by omega) (.inr ⟨by rw [o5 _ _ (by omega), o4 _ _ (by omega), o3 _ _ (by omega), o2 _ _ (by omega), o1 _ _ (by omega)]; exact h5, fun h => absurd h (by omega)⟩)
  obtain ⟨E7, v7, f7, q7, o7⟩ := add1 f6 (c := 5) (k := 2 * j + 1) (cls5 hy) (by omega) (.inr ⟨by rw [o6 _ _ (by omega), o5 _ _ (by omega), o4 _ _ (by omega), o3 _ _ (by omega), o2 _ _ (by omega), o1 _ _ (by omega)]; exact h5', fun h => absurd h (by omega)⟩)
  obtain ⟨E8, v8, f8, q8, o8⟩ := add1 f7 (c := 6) (k := j) (cls6 f) (by omega) (.inr ⟨by rw [o7 _ _ (by omega), o6 _ _ (by omega), o5 _ _ (by omega), o4 _ _ (by omega), o3 _ _ (by omega), o2 _ _ (by omega), o1 _ _ (by omega)]; exact h6, fun h => absurd h (by omega)⟩)
  refine ⟨E8, v1.trans (v2.trans (v3.trans (v4.trans (v5.trans (v6.trans (v7.trans v8)))))), f8, ?_, fun b => by rw [o8 _ _ (by omega), o7 _ _ (by omega), o6 _ _ (by omega), o5 _ _ (by omega), o4 _ _ (by omega), o3 _ _ (by omega), o2 _ _ (by omega), o1 _ _ (by omega)]⟩
  have w7 := v8
  have w6 := v7.trans w7
  have w5 := v6.trans w6
  have w4 := v5.trans w5
  have w3 := v4.trans w4
  have w2 := v3.trans w3
  have w1 := v2.trans w2
  exact .cons (.sym (w1.val _ _ _ q1) (by omega) rfl) (.cons (.sym (w2.val _ _ _ q2) (by omega) rfl) (.cons (.sym (w3.val _ _ _ q3) (by omega) rfl) (.cons (.sym (w4.val _ _ _ q4) (by omega) rfl) (.cons (.sym (w5.val _ _ _ q5) (by omega) rfl) (.cons (.sym (w6.val _ _ _ q6) (by omega) rfl) (.cons (.sym (w7.val _ _ _ q7) (by omega) rfl) (.cons (.sym q8 (by omega) rfl) .nil)))))))
end Go.Proofs.YtkmocipdekogkaaGreatDoor
end
section
namespace Go.Proofs.YtkmocipdekogkaaGreatDoor
set_option linter.unusedVariables false
set_option linter.unusedSimpArgs false
set_option linter.unusedSectionVars false
open Go.RowKit

/-- The spans that wait are among those that came. -/
def SpansOk (E : Env) (L : List (List AV)) (T : List (List Value)) : Prop := ∀ c ∈ L, ∃ r ∈ T, Rls E c r
/-- A fleet of that form stands there. -/
structure At1 (σ : Sh) (E : Env) (w : World) (fl : Loc) (n : Nat) (T : List (List Value)) (K : Nat → Prop) : Prop where
  mem : σ ∈ shapes
  rel : Rel E (shS σ) w
  fresh : Fresh E (shS σ)
  dom : ∀ c b v, E.val c b = some v → (c, b) ∈ σ.dom
  base : E.base = n
  at2 : E 2 = some fl
  spans : SpansOk E σ.all T
  apart : Apart E (shS σ) K
theorem Env.set_val (E : Env) (b : Nat) (l : Loc) (c d : Nat) : (E.set b l).val c d = E.val c d := rfl
theorem set_other (E : Env) {b c : Nat} (l : Loc) (h : c ≠ b) : E.set b l c = E c := by
  show (if c = b then some l else E c) = E c
  rw [if_neg h]
theorem facts_set {E : Env} (Fa : Facts E) {b : Nat} (l : Loc) (h : E b = none) : Facts (E.set b l) := Fa.mono (Env.le_set l h)
/-- A span's bytes, as the machine takes them. -/
theorem enc_rel {E : Env} {S : St} {w : World} (R : Rel E S w) (F : Fresh E S) {cs : List AV} {vs : List Value} (hcs : Rls E cs vs) {bs : List Nat} (hb' : spanB vs = some bs) {g c : Nat} {row : Array Value} {ty : TypeId}
    (hw : w.heap[g]? = some (.cells row ty (0, 0))) (ht : row.toList.take bs.length = bs.map (fun b : Nat => Value.int .u8 b)) (hc : bs.length ≤ c) (h9 : E.val 9 S.nx = none) (hA : Apart E S (fun q => q = g)) :
    ∃ E4, Rel E4 (S.new (.enc S.nx cs)) w ∧ Fresh E4 (S.new (.enc S.nx cs)) ∧ (∀ c b, ¬ (c = 9 ∧ b = S.nx) → E4.val c b = E.val c b) ∧ E4.base = E.base ∧ (∀ b, b ≠ S.nx → E4 b = E b) ∧ Rl E4 (.sym 9 S.nx) (.slice (some ⟨g, 0, none⟩) bs.length c) ∧
      ∀ K : Nat → Prop, Apart E S K → ¬ K g → Apart E4 (S.new (.enc S.nx cs)) K := by
  have hn : E S.nx = none := F _ (Nat.le_refl _)
  let v : Value := .slice (some ⟨g, 0, none⟩) bs.length c
  let l : Loc := ⟨g, 0, 0, 0⟩
  let E1 := E.set S.nx l
  have Fa1 : Facts E1 := facts_set R.facts l hn
  have h91 : E1.val 9 S.nx = none := h9
  have Fa4 : Facts (E1.upd 9 S.nx v) := facts_upd Fa1 ⟨fun h => absurd h (by omega), fun h => absurd h (by omega), fun h => absurd h (by omega), fun h => absurd h (by omega), fun h => absurd h (by omega)⟩ (fun _ => ⟨l, Env.set_same _ _⟩) (fun h => absurd h (by omega))
  have hle : Env.le E E1 := Env.le_set l hn
  have hv : VLe E1 (E1.upd 9 S.nx v) := upd_le v h91
  have hold : ∀ b o, (S.new (.enc S.nx cs)).h.get b = some o → b ≠ S.nx → S.h.get b = some o := fun b o hb hne => by
    simp only [St.new, Tr.get_set] at hb
    rwa [if_neg hne] at hb
  have hnew : ∀ o, (S.new (.enc S.nx cs)).h.get S.nx = some o → o = .enc S.nx cs := fun o hb => by
    simp only [St.new, Tr.get_set] at hb
    simpa using hb.symm
  have hat : ∀ b, b ≠ S.nx → (E1.upd 9 S.nx v) b = E b := fun b hb => set_other E l hb
  have hat2 : (E1.upd 9 S.nx v) S.nx = some l := Env.set_same _ _
  have key : ∀ b o lb, (S.new (.enc S.nx cs)).h.get b = some o → (E1.upd 9 S.nx v) b = some lb → (b = S.nx ∧ lb = l ∧ o = .enc S.nx cs) ∨ (b ≠ S.nx ∧ S.h.get b = some o ∧ E b = some lb) := by
    intro b o lb hb hE
    by_cases h : b = S.nx
    · subst h
      rw [hat2] at hE
      exact .inl ⟨rfl, (Option.some.inj hE).symm, hnew o hb⟩
    · exact .inr ⟨h, hold b o hb h, by rw [← hat b h]; exact hE⟩
  refine ⟨E1.upd 9 S.nx v, ⟨fun b o lb hb hE => ?_, fun b d o o' lb ld hb hd hEb hEd hg => ?_, Fa4⟩, fun b hb => ?_, fun c b h => upd_other E1 v h, rfl, hat, .sym (upd_same E1 9 S.nx v) (by omega) rfl, fun K hK hg b o lb hb hE hk => ?_⟩
  · rcases key b o lb hb hE with ⟨rfl, rfl, rfl⟩ | ⟨h1, h2, h3⟩
    · exact ⟨row, ty, c, vs, bs, hw, upd_same E1 9 S.nx v, (hcs.mono hle).vmono hv, hb', hc, ht⟩
    · exact ((R.obj b o lb h2 h3).mono hle).vmono hv
  · rcases key b o lb hb hEb with ⟨rfl, rfl, rfl⟩ | ⟨h1, h2, h3⟩
    · rcases key d o' ld hd hEd with ⟨rfl, _, _⟩ | ⟨j1, j2, j3⟩
      · rfl
      · exact absurd hg.symm (hA d o' ld j2 j3)
    · rcases key d o' ld hd hEd with ⟨rfl, rfl, _⟩ | ⟨j1, j2, j3⟩
      · exact absurd hg (hA b o lb h2 h3)
      · exact R.inj b d o o' lb ld h2 j2 h3 j3 hg
  · have hb' : S.nx + 1 ≤ b := hb
    rw [hat b (by omega)]
    exact F b (by omega)
  · rcases key b o lb hb hE with ⟨rfl, rfl, rfl⟩ | ⟨h1, h2, h3⟩
    · exact hg hk
    · exact hK b o lb h2 h3 hk
end Go.Proofs.YtkmocipdekogkaaGreatDoor
end
section
namespace Go.Proofs.YtkmocipdekogkaaGreatDoor
set_option linter.unusedVariables false
set_option linter.unusedSimpArgs false
set_option linter.unusedSectionVars false
open Go.RowKit

def opV (v : Value) : Value := .agg #[.int .i64 1, .int .u64 1, .int .i64 0, .int .u64 0, v, .slice none 0 0]
/-- What one more span comes to. -/
def Done (fl : Loc) (n : Nat) (T : List (List Value)) (vs : List Value) (K : Nat → Prop) (w : World) (e : Ending) (w' : World) : Prop :=
  ∃ (r : Nat) (σ' : Sh) (E2 : Env), (r = 0 ∨ r = 8) ∧ e = .returned (.int .i64 (r : Int)) ∧ At1 σ' E2 w' fl (n + 1) (if r = 0 then T ++ [vs] else T) K ∧ (∀ q, K q → w'.heap[q]? = w.heap[q]?) ∧ w.heap.size ≤ w'.heap.size ∧ w'.tape = w.tape ∧ w'.os = w.os ∧ w'.output = w.output
theorem bool_not {b : Bool} (h : Bool.not b = true) : ¬ b = true := by cases b <;> simp_all
theorem fin_ok {σ : Sh} {E : Env} {w : World} {fl : Loc} {n : Nat} {T : List (List Value)} {K : Nat → Prop} (H : At1 σ E w fl n T K) (hn : n + 1 ≤ baseMax) {t i p a l : Nat} {x y : ByteArray} {f : Bool} (ht : 0 < t ∧ t < 2 ^ 64) (hi : 0 < i ∧ i < 2 ^ 64) (hp : p < 2 ^ 64) (ha : a ≤ 2 ^ 40) (hl : l ≤ 2 ^ 40) (hx : NameOk x) (hy : NameOk y)
    {κ : Cs} (hκ : κ ∈ casesOf σ) {kt ci ki j r : Nat} {σ' : Sh} (hs : stepS σ κ = some (spanA (.sym 0 kt) (.sym ci ki) j, r, σ')) (hci : ci = 1 ∨ ci = 2)
    (hT : E.val 0 kt = some (.int .u64 t) ∨ (E.val 0 kt = none ∧ CanUpd E 0 kt (.int .u64 t))) (hI : E.val ci ki = some (.int .u64 i) ∨ (E.val ci ki = none ∧ CanUpd E ci ki (.int .u64 i)))
    {bs : List Nat} (hb : spanB (spanV t i p a l x y f).toList = some bs) {g c : Nat} {row : Array Value} {ty : TypeId}
    (hw : w.heap[g]? = some (.cells row ty (0, 0))) (hrow : row.toList.take bs.length = bs.map (fun b : Nat => Value.int .u8 b)) (hc : bs.length ≤ c) (hg : ¬ K g) (hK : ∀ q, K q → q < w.heap.size) (hA : Apart E (shS σ) (fun q => q = g)) :
    Calls Tryz.prog 12 #[.pointer (some ⟨fl.g, fl.sh + 0, none⟩), opV (.slice (some ⟨g, 0, none⟩) bs.length c)] w (Done fl n T (spanV t i p a l x y f).toList K w) := by
  have hok := step_ok H.mem hκ
  unfold okStep at hok
  rw [hs] at hok
  simp only [spanA, Bool.and_eq_true] at hok
  obtain ⟨⟨⟨⟨hmem, hr⟩, hold⟩, hfresh⟩, _⟩ := hok
  replace hmem := of_decide_eq_true hmem
  unfold freshJ at hfresh
  simp only [Bool.and_eq_true] at hfresh
  obtain ⟨⟨⟨⟨⟨f4, f3⟩, f3'⟩, f5⟩, f5'⟩, f6⟩ := hfresh
  have fr : ∀ c b, (Bool.not (memS (c, b) σ.dom)) = true → E.val c b = none := fun c b h => by
    cases hv : E.val c b with
    | none => rfl
    | some v => exact absurd ((memS_iff _ _).2 (H.dom c b v hv)) (bool_not h)
  obtain ⟨E3, v3, Fa3, hcs, h9⟩ := ext_span H.rel.facts ht hi hp ha hl hx hy hci hT hI (fr _ _ f4) (fr _ _ f3) (fr _ _ f3') (fr _ _ f5) (fr _ _ f5') (fr _ _ f6)
  have R3 : Rel E3 (shS σ) w := H.rel.vmono v3 Fa3
  have F3 : Fresh E3 (shS σ) := fun b hb => (v3.at' b).trans (H.fresh b hb)
  have A3 : ∀ K' : Nat → Prop, Apart E (shS σ) K' → Apart E3 (shS σ) K' := fun K' h b o lb hb hE => h b o lb hb (by rw [← v3.at' b]; exact hE)
  have hnx : (shS σ).nx = 38 := rfl
  have h938 : E3.val 9 (shS σ).nx = none := by
    rw [h9]
    cases hv : E.val 9 (shS σ).nx with
    | none => rfl
    | some v => exact absurd (H.dom _ _ _ hv) (dom9 σ _)
  obtain ⟨E4, R4, F4, o4, b4, a4, r4, A4⟩ := enc_rel R3 F3 hcs hb hw hrow hc h938 (A3 _ hA)
  rw [hnx] at R4 F4 o4 a4 r4 A4
  have h2 : E4 2 = some fl := by rw [a4 2 (by omega), v3.at' 2]; exact H.at2
  have hargs : Rls E4 [pP 2, opA] [.pointer (some ⟨fl.g, fl.sh + 0, none⟩), opV (.slice (some ⟨g, 0, none⟩) bs.length c)] :=
    .cons (.ptr 0 h2) (.cons (.agg (.cons (.int _ _) (.cons (.int _ _) (.cons (.int _ _) (.cons (.int _ _) (.cons r4 (.cons .nils .nil))))))) .nil)
  have hbase : E4.base = n := by rw [b4, v3.base]; exact H.base
  refine (do_ok hs (do_all σ H.mem κ hκ) R4 F4 hargs (by rw [hbase]; exact hn) (A4 K (A3 K H.apart) hg) hK).mono ?_
  rintro e w' ⟨he, ⟨E2, k1, k2, k3, k4, k5, k6⟩, k7, k8, k9, k10, k11⟩
  refine ⟨r, σ', E2, ?_, he, ⟨hmem, k1, k2, fun c b v h => ((k3 c b v).1 h).1, by rw [k4, hbase], k5 fl h2, ?_, k6⟩, k7, k8, k9, k10, k11⟩
  · cases h0 : Nat.beq r 0 <;> rw [h0] at hr <;> simp only [cond_true, cond_false] at hr
    · exact .inr (Nat.eq_of_beq_eq_true hr)
    · exact .inl (Nat.eq_of_beq_eq_true h0)
  · intro q hq
    obtain ⟨q1, q2⟩ := oldB_ok hold q hq
    have up : ∀ c b v, (c, b) ∈ σ'.dom → E3.val c b = some v → E2.val c b = some v := fun c b v hm hv => by
      refine (k3 c b v).2 ⟨hm, ?_⟩
      rw [o4 c b (fun h => by obtain ⟨rfl, rfl⟩ := h; exact dom9 σ' _ hm)]
      exact hv
    rcases q2 with q2 | ⟨rfl, rfl⟩
    · obtain ⟨r', hr', hq'⟩ := H.spans q q2
      refine ⟨r', ?_, rls_sym up q1 (hq'.vmono v3)⟩
      split
      · exact List.mem_append_left _ hr'
      · exact hr'
    · refine ⟨_, ?_, rls_sym up q1 hcs⟩
      rw [if_pos rfl]
      exact List.mem_append_right _ (List.mem_cons_self ..)
theorem shapes_form {t : Nat} {lt : Bool} {a b : Nat × Bool} (h : (⟨t, lt, a, b⟩ : Sh) ∈ shapes) : t = 0 ∨ (t = 1 ∧ (a.1 = 1 ∨ a.1 = 2)) ∨ (t = 2 ∧ (a.1 = 1 ∨ a.1 = 2) ∧ (b.1 = 1 ∨ b.1 = 2)) := by
  simp only [shapes, List.mem_cons, List.not_mem_nil, or_false, Sh.mk.injEq] at h
  rcases h with h | h | h | h | h | h | h | h | h | h | h | h | h | h | h | h | h | h | h | h | h | h <;> obtain ⟨rfl, rfl, rfl, rfl⟩ := h <;> simp
end Go.Proofs.YtkmocipdekogkaaGreatDoor
end
section
namespace Go.Proofs.YtkmocipdekogkaaGreatDoor
set_option linter.unusedVariables false
set_option linter.unusedSimpArgs false
set_option linter.unusedSectionVars false
open Go.RowKit

/-- By whichever case: that is enough. -/
def ByCase (σ : Sh) (E : Env) (t i : Nat) (G : Prop) : Prop := ∀ {κ : Cs} (hκ : κ ∈ casesOf σ) {kt ci ki j r : Nat} {σ' : Sh} (hs : stepS σ κ = some (spanA (.sym 0 kt) (.sym ci ki) j, r, σ')) (hci : ci = 1 ∨ ci = 2)
    (hT : E.val 0 kt = some (.int .u64 t) ∨ (E.val 0 kt = none ∧ CanUpd E 0 kt (.int .u64 t))) (hI : E.val ci ki = some (.int .u64 i) ∨ (E.val ci ki = none ∧ CanUpd E ci ki (.int .u64 i))), G
theorem id_case {E : Env} {ci mm : Nat} (hdom : ∀ b u, E.val ci b = some u → 8 ≤ b ∧ b < 8 + mm) (i : Nat) :
    (∃ m, m < mm ∧ E.val ci (8 + m) = some (.int .u64 i)) ∨ (E.val ci (8 + mm) = none ∧ CanUpd E ci (8 + mm) (.int .u64 i)) := by
  by_cases h : ∃ m, m < mm ∧ E.val ci (8 + m) = some (.int .u64 i)
  · exact .inl h
  · refine .inr ⟨?_, fun b u hb hu => ?_⟩
    · cases hv : E.val ci (8 + mm) with
      | none => rfl
      | some v => have := hdom _ _ hv; omega
    · have hd := hdom _ _ hu
      refine ⟨fun _ h7 => by omega, fun h7 _ => by omega, fun _ _ he => h ⟨b - 8, by omega, ?_⟩, fun h7 _ => by omega⟩
      rw [show 8 + (b - 8) = b by omega, hu, he]
theorem sameSp_ok {σ : Sh} {E : Env} {t i : Nat} {G : Prop} (P : ByCase σ E t i G) (c : Bool) (hm : (bif c then σ.b else σ.a).1 = 1 ∨ (bif c then σ.b else σ.a).1 = 2) (hsub : ∀ κ, κ ∈ casesT c (bif c then σ.b else σ.a).1 → κ ∈ casesOf σ)
    (hT : E.val 0 (bif c then (bif σ.lt then 3 else 1) else 2) = some (.int .u64 t)) (hdom : ∀ b u, E.val (bif c then 2 else 1) b = some u → 8 ≤ b ∧ b < 8 + (bif c then σ.b else σ.a).1) : G := by
  have hci : (bif c then 2 else 1) = 1 ∨ (bif c then 2 else 1) = 2 := by cases c <;> simp
  rcases id_case hdom i with ⟨m, h1, h2⟩ | h
  · refine P (hsub (.dup c m) ?_) (kt := bif c then (bif σ.lt then 3 else 1) else 2) (ki := 8 + m) rfl hci (.inl hT) (.inl h2)
    rcases hm with h | h
    · rw [h] at h1 ⊢
      have : m = 0 := by omega
      subst this; simp [casesT]
    · rw [h] at h1 ⊢
      have : m = 0 ∨ m = 1 := by omega
      rcases this with rfl | rfl <;> simp [casesT]
  · have hk : Cs.add c ∈ casesOf σ := hsub _ (by rcases hm with h | h <;> rw [h] <;> simp [casesT])
    obtain ⟨st, lt, ⟨a, fa⟩, ⟨b, fb⟩⟩ := σ
    cases c <;> simp only [cond_false, cond_true] at hm h hT <;> rcases hm with rfl | rfl
    · exact P hk (kt := 2) (ci := 1) (ki := 9) rfl (.inl rfl) (.inl hT) (.inr h)
    · exact P hk (kt := 2) (ci := 1) (ki := 10) rfl (.inl rfl) (.inl hT) (.inr h)
    · exact P hk (kt := bif lt then 3 else 1) (ci := 2) (ki := 9) rfl (.inr rfl) (.inl hT) (.inr h)
    · exact P hk (kt := bif lt then 3 else 1) (ci := 2) (ki := 10) rfl (.inr rfl) (.inl hT) (.inr h)
theorem key_val {E : Env} (Fa : Facts E) {L : List (List AV)} {T : List (List Value)} (h : SpansOk E L T) {k : Nat} {id : AV} {j : Nat} (hm : spanA (.sym 0 k) id j ∈ L) : ∃ n : Nat, E.val 0 k = some (.int .u64 n) ∧ 0 < n ∧ n < 2 ^ 64 := by
  obtain ⟨r, _, hr⟩ := h _ hm
  cases hr with
  | cons h1 _ => cases h1 with
    | sym hv _ _ =>
      obtain ⟨n, rfl, h0, h1⟩ := (Fa.cls _ _ _ hv).1 (by omega)
      exact ⟨n, hv, h0, h1⟩
theorem hd_in {σ : Sh} (c : Bool) (hm : (bif c then σ.b else σ.a).1 = 1 ∨ (bif c then σ.b else σ.a).1 = 2) : σ.slot c 0 ∈ σ.spans c := by
  unfold Sh.spans
  rcases hm with h | h <;> rw [h] <;> simp
/-- The numbers under which a state's spans are named. -/
theorem dom_cls {σ : Sh} {c : Bool} (hm : (bif c then σ.b else σ.a).1 = 1 ∨ (bif c then σ.b else σ.a).1 = 2) {d b : Nat} (h : (d, b) ∈ symsA (catA (σ.spans c))) :
    (d = 0 → b = (bif c then (bif σ.lt then 3 else 1) else 2)) ∧ (d = 1 ∨ d = 2 → d = (bif c then 2 else 1) ∧ 8 ≤ b ∧ b < 8 + (bif c then σ.b else σ.a).1) := by
  unfold Sh.spans at h
  generalize hk : (bif c then (bif σ.lt then 3 else 1) else 2) = kk
  have hk' : σ.key c = .sym 0 kk := by rw [← hk]; rfl
  generalize hi : (bif c then 2 else 1) = ii
  have hi' : ∀ m, Sh.ids c m = .sym ii (8 + m) := fun m => by rw [← hi]; rfl
  have hii : ii = 1 ∨ ii = 2 := by rw [← hi]; cases c <;> simp
  clear hk hi
  rcases hm with hm | hm <;> rw [hm] at h ⊢ <;> simp [catA, Sh.slot, spanA, symsA, hk', hi'] at h <;> refine ⟨fun hd => ?_, fun hd => ?_⟩ <;> omega
theorem natV_u (n : Nat) : natV (.int .u64 n) = n := rfl
theorem round_case {σ : Sh} {E : Env} {w : World} {fl : Loc} {n : Nat} {T : List (List Value)} {K : Nat → Prop} (H : At1 σ E w fl n T K) {t i : Nat} {G : Prop} (P : ByCase σ E t i G) : G := by
  obtain ⟨st, lt, a, b⟩ := σ
  rcases shapes_form H.mem with rfl | ⟨rfl, ha⟩ | ⟨rfl, ha, hb⟩
  · have hd : ∀ c b v, E.val c b = some v → False := fun c b v h => by have := H.dom c b v h; simp [Sh.dom] at this
    have hn : ∀ c b, E.val c b = none := fun c b => by
      cases h : E.val c b with
      | none => rfl
      | some v => exact (hd _ _ _ h).elim
    exact P (κ := .gt) (by simp [casesOf]) (kt := 2) (ci := 1) (ki := 8) rfl (.inl rfl) (.inr ⟨hn _ _, fun b u _ h => (hd _ _ _ h).elim⟩) (.inr ⟨hn _ _, fun b u _ h => (hd _ _ _ h).elim⟩)
  · let σ : Sh := ⟨1, lt, a, b⟩
    have hD : ∀ c b' v, E.val c b' = some v → (c, b') ∈ symsA (catA (σ.spans false)) := fun c b' v h => H.dom c b' v h
    obtain ⟨m, hm, m0, m1⟩ := key_val H.rel.facts (k := 2) H.spans (hd_in (σ := σ) false ha)
    have d0 : ∀ b' v, E.val 0 b' = some v → b' = 2 ∧ v = .int .u64 m := fun b' v h => by
      have := (dom_cls (σ := σ) (c := false) ha (hD _ _ _ h)).1 rfl
      have e : b' = 2 := this
      subst e
      exact ⟨rfl, Option.some.inj (h.symm.trans hm)⟩
    have d2 : ∀ b' v, E.val 2 b' = some v → False := fun b' v h => by
      have := ((dom_cls (σ := σ) (c := false) ha (hD _ _ _ h)).2 (.inr rfl)).1
      have e : (2 : Nat) = 1 := this
      omega
    have n0 : ∀ k, k ≠ 2 → E.val 0 k = none := fun k hk => by
      cases h : E.val 0 k with
      | none => rfl
      | some v => exact absurd (d0 _ _ h).1 hk
    have n2 : ∀ k, E.val 2 k = none := fun k => by
      cases h : E.val 2 k with
      | none => rfl
      | some v => exact (d2 _ _ h).elim
    rcases Nat.lt_trichotomy t m with h | h | h
    · refine P (κ := .less) (by simp [casesOf]) (kt := 1) (ci := 2) (ki := 8) rfl (.inr rfl) (.inr ⟨n0 _ (by omega), fun b u _ hu => ?_⟩) (.inr ⟨n2 _, fun b u _ h => (d2 _ _ h).elim⟩)
      obtain ⟨rfl, rfl⟩ := d0 _ _ hu
      refine ⟨fun h' => by omega, fun _ _ => h, fun h' => by omega, fun _ _ he => ?_⟩
      injection he with _ he; omega
    · subst h
      exact sameSp_ok (σ := σ) @P false ha (fun κ h => by exact List.mem_append_right _ h) hm fun b' u hu => ((dom_cls (σ := σ) (c := false) ha (hD _ _ _ hu)).2 (.inl rfl)).2
    · refine P (κ := .gt) (by simp [casesOf]) (kt := 3) (ci := 2) (ki := 8) rfl (.inr rfl) (.inr ⟨n0 _ (by omega), fun b u _ hu => ?_⟩) (.inr ⟨n2 _, fun b u _ h => (d2 _ _ h).elim⟩)
      obtain ⟨rfl, rfl⟩ := d0 _ _ hu
      refine ⟨fun _ _ => h, fun h' => by omega, fun _ _ he => ?_, fun h' => by omega⟩
      injection he with _ he; omega
  · let σ : Sh := ⟨2, lt, a, b⟩
    have hD : ∀ c b' v, E.val c b' = some v → (c, b') ∈ symsA (catA (σ.spans false)) ++ symsA (catA (σ.spans true)) := fun c b' v h => H.dom c b' v h
    have hS : SpansOk E (σ.spans false ++ σ.spans true) T := H.spans
    obtain ⟨m, hm, m0, m1⟩ := key_val H.rel.facts (k := 2) hS (List.mem_append_left _ (hd_in (σ := σ) false ha))
    obtain ⟨q, hq, q0, q1⟩ := key_val H.rel.facts (k := bif lt then 3 else 1) hS (List.mem_append_right _ (hd_in (σ := σ) true hb))
    have d0 : ∀ b' v, E.val 0 b' = some v → (b' = 2 ∧ v = .int .u64 m) ∨ (b' = (bif lt then 3 else 1) ∧ v = .int .u64 q) := fun b' v h => by
      rcases List.mem_append.1 (hD _ _ _ h) with h' | h'
      · have e : b' = 2 := (dom_cls (σ := σ) (c := false) ha h').1 rfl
        subst e
        exact .inl ⟨rfl, Option.some.inj (h.symm.trans hm)⟩
      · have e : b' = (bif lt then 3 else 1) := (dom_cls (σ := σ) (c := true) hb h').1 rfl
        subst e
        exact .inr ⟨rfl, Option.some.inj (h.symm.trans hq)⟩
    have d1 : ∀ b' v, E.val 1 b' = some v → 8 ≤ b' ∧ b' < 8 + a.1 := fun b' v h => by
      rcases List.mem_append.1 (hD _ _ _ h) with h' | h'
      · exact ((dom_cls (σ := σ) (c := false) ha h').2 (.inl rfl)).2
      · have e : (1 : Nat) = 2 := ((dom_cls (σ := σ) (c := true) hb h').2 (.inl rfl)).1
        omega
    have d2 : ∀ b' v, E.val 2 b' = some v → 8 ≤ b' ∧ b' < 8 + b.1 := fun b' v h => by
      rcases List.mem_append.1 (hD _ _ _ h) with h' | h'
      · have e : (2 : Nat) = 1 := ((dom_cls (σ := σ) (c := false) ha h').2 (.inr rfl)).1
        omega
      · exact ((dom_cls (σ := σ) (c := true) hb h').2 (.inr rfl)).2
    have hk : (bif lt then 3 else 1) < 15 := by cases lt <;> simp
    by_cases h : t = m
    · subst h
      exact sameSp_ok (σ := σ) @P false ha (fun κ h => by exact List.mem_append_left _ (List.mem_append_right _ h)) hm d1
    · by_cases h' : t = q
      · subst h'
        exact sameSp_ok (σ := σ) @P true hb (fun κ h => by exact List.mem_append_right _ h) hq d2
      · refine P (κ := .third) (by simp [casesOf]) (kt := 15) (ci := 1) (ki := 16) rfl (.inl rfl) (.inr ⟨?_, fun b u _ hu => ?_⟩) (.inr ⟨?_, fun b u hb hu => ?_⟩)
        · cases hv : E.val 0 15 with
          | none => rfl
          | some v =>
            rcases d0 _ _ hv with h | h
            · omega
            · omega
        · have hb15 : b < 15 := by rcases d0 _ _ hu with h | h <;> omega
          refine ⟨fun _ h' => by omega, fun h' => by omega, fun _ _ he => ?_, fun h' => by omega⟩
          rcases d0 _ _ hu with ⟨_, rfl⟩ | ⟨_, rfl⟩ <;> injection he with _ he <;> omega
        · cases hv : E.val 1 16 with
          | none => rfl
          | some v => have := d1 _ _ hv; have : a.1 ≤ 2 := by omega
                      omega
        · have := d1 _ _ hu
          exact ⟨fun _ h' => by omega, fun h' => by omega, fun _ h' => by omega, fun h' => by omega⟩
/-- One more span: to the next form. -/
theorem round_ok {σ : Sh} {E : Env} {w : World} {fl : Loc} {n : Nat} {T : List (List Value)} {K : Nat → Prop} (H : At1 σ E w fl n T K) (hn : n + 1 ≤ baseMax) {t i p a l : Nat} {x y : ByteArray} {f : Bool} (ht : 0 < t ∧ t < 2 ^ 64) (hi : 0 < i ∧ i < 2 ^ 64) (hp : p < 2 ^ 64) (ha : a ≤ 2 ^ 40) (hl : l ≤ 2 ^ 40) (hx : NameOk x) (hy : NameOk y)
    {bs : List Nat} (hb : spanB (spanV t i p a l x y f).toList = some bs) {g c : Nat} {row : Array Value} {ty : TypeId}
    (hw : w.heap[g]? = some (.cells row ty (0, 0))) (hrow : row.toList.take bs.length = bs.map (fun b : Nat => Value.int .u8 b)) (hc : bs.length ≤ c) (hg : ¬ K g) (hK : ∀ q, K q → q < w.heap.size) (hA : Apart E (shS σ) (fun q => q = g)) :
    Calls Tryz.prog 12 #[.pointer (some ⟨fl.g, fl.sh + 0, none⟩), opV (.slice (some ⟨g, 0, none⟩) bs.length c)] w (Done fl n T (spanV t i p a l x y f).toList K w) :=
  round_case H (t := t) (i := i) fun hκ _ _ _ _ _ _ hs hci hT hI => fin_ok H hn ht hi hp ha hl hx hy hκ hs hci hT hI hb hw hrow hc hg hK hA
end Go.Proofs.YtkmocipdekogkaaGreatDoor
end
