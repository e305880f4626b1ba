/-
  The plain law of the cache: a list of traces and their verdicts, the oldest first; what a map that reads as such a list does.
-/
import Derived.Maps.Views
import Derived.Maps.OwnSet
namespace Go.Proofs.Ytlfefopcdfkngaa
set_option linter.unusedVariables false
set_option linter.unusedSimpArgs false

/-- A trace and its verdict. -/
abbrev One := Int × Int
def getL : List One → Int → Int
  | [], _ => 0
  | x :: l, t => if x.1 = t then x.2 else getL l t
def keysL (l : List One) : List Int := l.map (·.1)
/-- What a verdict that is put makes of the list, and whether it was taken. -/
def putL (l : List One) (most : Nat) (t v : Int) : List One × Bool :=
  if t = 0 ∨ v < 1 ∨ 3 < v ∨ (getL l t ≠ 0 ∧ getL l t ≠ v) then (l, false)
  else if getL l t = v then (l, true)
  else ((if most ≤ l.length then l.tail else l) ++ [(t, v)], true)
structure Good (most : Nat) (l : List One) : Prop where
  len : l.length ≤ most
  one : ∀ x ∈ l, 0 < x.1 ∧ x.1 < 18446744073709551616 ∧ 1 ≤ x.2 ∧ x.2 ≤ 3
  nodup : (keysL l).Nodup

theorem good_nil (most : Nat) : Good most [] := ⟨Nat.zero_le _, by simp, List.nodup_nil⟩
theorem getL_mem : ∀ (l : List One) (t : Int), (∀ x ∈ l, 1 ≤ x.2) → (getL l t ≠ 0 ↔ t ∈ keysL l)
  | [], t, _ => by simp [getL, keysL]
  | x :: l, t, h => by
    have hx := h x (by simp)
    have ih := getL_mem l t (fun y hy => h y (by simp [hy]))
    unfold getL keysL
    by_cases e : x.1 = t
    · rw [if_pos e]; simp [e]; omega
    · rw [if_neg e, ih]
      unfold keysL
      simp only [List.map_cons, List.mem_cons]
      exact ⟨fun h => .inr h, fun h => h.resolve_left (fun q => e q.symm)⟩
theorem getL_append (l : List One) (t u v : Int) (h : u ∉ keysL l) : getL (l ++ [(u, v)]) t = if u = t then v else getL l t := by
  induction l with
  | nil => simp [getL]
  | cons x l ih =>
    simp only [keysL, List.map_cons, List.mem_cons, not_or] at h
    have ih := ih h.2
    simp only [List.cons_append, getL]
    by_cases e : x.1 = t
    · rw [if_pos e, if_pos e, if_neg (fun q => h.1 (by rw [e, q]))]
    · rw [if_neg e, if_neg e, ih]
theorem Good.put {most : Nat} {l : List One} (g : Good most l) (t v : Int) (ht : 0 ≤ t ∧ t < 18446744073709551616) (hm : 1 ≤ most) : Good most (putL l most t v).1 := by
  unfold putL
  by_cases h1 : t = 0 ∨ v < 1 ∨ 3 < v ∨ (getL l t ≠ 0 ∧ getL l t ≠ v)
  · rw [if_pos h1]; exact g
  rw [if_neg h1]
  by_cases h2 : getL l t = v
  · rw [if_pos h2]; exact g
  rw [if_neg h2]
  have h0 : getL l t = 0 := by
    by_cases q : getL l t = 0
    · exact q
    · exact absurd (.inr (.inr (.inr ⟨q, h2⟩))) h1
  have hn : t ∉ keysL l := fun q => (getL_mem l t (fun x hx => (g.one x hx).2.2.1)).2 q h0
  have hv : 1 ≤ v ∧ v ≤ 3 := by omega
  have htl : ∀ l' : List One, l' <:+ l → l'.length < most → Good most (l' ++ [(t, v)]) := fun l' hs hl => by
    refine ⟨by simp; omega, fun x hx => ?_, ?_⟩
    · rcases List.mem_append.1 hx with hx | hx
      · exact g.one x (hs.subset hx)
      · simp only [List.mem_singleton] at hx; subst hx; exact ⟨by omega, ht.2, hv.1, hv.2⟩
    · have hk : (keysL l').Nodup := List.Nodup.sublist (hs.sublist.map _) g.nodup
      have hn' : t ∉ keysL l' := fun q => hn ((hs.sublist.map (·.1)).subset q)
      unfold keysL
      rw [List.map_append, List.map_singleton]
      exact List.nodup_append.2 ⟨hk, by simp, fun a ha b hb => by
        simp only [List.mem_singleton] at hb; subst hb; exact fun e => hn' (e ▸ ha)⟩
  show Good most ((if most ≤ l.length then l.tail else l) ++ [(t, v)])
  by_cases h3 : most ≤ l.length
  · rw [if_pos h3]
    exact htl _ (List.tail_suffix l) (by have := g.len; rw [List.length_tail]; omega)
  · rw [if_neg h3]
    exact htl _ (List.suffix_refl l) (by omega)

/-! What a map reads as. -/
abbrev kt (t : Int) : Lit := .int .u64 t
/-- The map reads as the list. -/
structure Rel (D : DataW Unit) (l : List One) : Prop where
  tidy : Maps.Tidy D
  has : ∀ t, Maps.has D (kt t) = decide (t ∈ keysL l)
  at' : ∀ t, D.atKey (kt t) (.lit (.int .i64 0)) = .lit (.int .i64 (getL l t))
  size : Maps.size D = l.length
theorem rel_nil : Rel (.map []) [] := ⟨Maps.tidy_empty, fun t => rfl, fun t => rfl, rfl⟩
theorem kt_ne {a b : Int} (h : a ≠ b) : kt a ≠ kt b := by intro e; simp [kt] at e; exact h e
theorem isKey_kt (t : Int) : WideAt.IsKeyLit (kt t) := by simp [WideAt.IsKeyLit]
theorem Rel.put {D : DataW Unit} {l : List One} (h : Rel D l) (t v : Int) (ht : t ∉ keysL l) (hT : Maps.Tidy (D.put (kt t) (.lit (.int .i64 v)))) : Rel (D.put (kt t) (.lit (.int .i64 v))) (l ++ [(t, v)]) := by
  refine ⟨hT, fun u => ?_, fun u => ?_, ?_⟩
  · by_cases e : u = t
    · subst e
      rw [Maps.has_put_same h.tidy.isMap (isKey_kt _)]
      simp [keysL]
    · rw [Maps.has_put_other (kt_ne e), h.has]
      exact decide_eq_decide.2 (by simp [keysL, e])
  · rw [getL_append l u t v ht]
    by_cases e : u = t
    · subst e
      rw [Maps.atKey_put_same h.tidy.isMap (isKey_kt _), if_pos rfl]
    · rw [Maps.atKey_put_other (kt_ne e), h.at', if_neg (fun q => e q.symm)]
  · rw [Maps.size_put h.tidy, h.has, if_neg (by simpa using ht), h.size]; simp
theorem Rel.del {D : DataW Unit} {t v : Int} {l : List One} (h : Rel D ((t, v) :: l)) (ht : t ∉ keysL l) (hT : Maps.Tidy (D.del (kt t))) : Rel (D.del (kt t)) l := by
  have h0 : ∀ l : List One, t ∉ keysL l → getL l t = 0 := by
    intro l
    induction l with
    | nil => intro _; rfl
    | cons x r ih =>
      intro q
      simp only [keysL, List.map_cons, List.mem_cons, not_or] at q
      rw [getL, if_neg (fun e => q.1 e.symm)]
      exact ih q.2
  refine ⟨hT, fun u => ?_, fun u => ?_, ?_⟩
  · by_cases e : u = t
    · subst e
      rw [Maps.has_del_same]
      simp [ht]
    · rw [Maps.has_del_other (kt_ne e), h.has]
      exact decide_eq_decide.2 (by simp [keysL, e])
  · by_cases e : u = t
    · subst e
      rw [Maps.atKey_del_same, h0 l ht]
    · rw [Maps.atKey_del_other (kt_ne e), h.at', getL, if_neg (fun q => e q.symm)]
  · have := Maps.size_del (k := kt t) h.tidy
    rw [h.has, h.size] at this
    simp [keysL] at this
    omega

end Go.Proofs.Ytlfefopcdfkngaa
