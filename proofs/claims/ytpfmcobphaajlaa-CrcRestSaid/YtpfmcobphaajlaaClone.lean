/-
  'append([]byte{}, b...)', b a slice of bytes that came in, nil or not: a law for the walk; and small facts on bytes that a call owns.
-/
import Derived.Test.YtpfmcobphaajlaaWalk1
import Derived.OwnWalk
import Derived.Laws.OwnMore
import Derived.Laws.AppendOwnNone
namespace Go.Proofs.Ytpfmcobphaajlaa
open Go.RowKit

theorem info5 : (Try.prog.info? 5).map (fun i => (i.zero, i.size, i.bytes)) = some (some (.int .u8 0), 1, 1) := by kernel_rfl

theorem rd_alloc {W : World} {a : Option Addr} {xs : List Int} (h : Rd W a xs) (o : Obj) : Rd (W.alloc o) a xs := by
  rcases h with rfl | ⟨b, off, rfl, hc⟩
  · exact .inl rfl
  · exact .inr ⟨b, off, rfl, fun i hi => Lib.cell?_alloc_marked o (hc i hi)⟩
theorem rd_below {B : Nat} {w W : World} {a : Option Addr} {xs : List Int} (h : Rd w a xs) (hb : Below B w W) (hB : w.heap.size ≤ B) : Rd W a xs := by
  rcases h with rfl | ⟨b, off, rfl, hc⟩
  · exact .inl rfl
  · exact .inr ⟨b, off, rfl, fun i hi => (hb.cell (p := ⟨b, off + i, none⟩) (Nat.lt_of_lt_of_le (World.block_lt_of_cell? w _ (hc i hi)) hB)).trans (hc i hi)⟩
/-- What a call owns it can read. -/
theorem rd_own {W : World} {B n : Nat} {v : Value} {zs : List Int} (h : W.ownsRow B 5 1 v n (zs.map (Value.int .u8))) (hz : zs.length = n) : ∃ a cap, v = .slice a n cap ∧ Rd W a zs := by
  rcases h.2 with ⟨rfl, rfl⟩ | ⟨g, cap, cur, rfl, _⟩
  · exact ⟨none, 0, rfl, .inl (List.eq_nil_of_length_eq_zero hz)⟩
  · refine ⟨_, cap, rfl, .inr ⟨_, _, rfl, fun i hi => ?_⟩⟩
    rw [Nat.zero_add, h.cellAt i (by omega), List.getElem?_map, List.getElem?_eq_getElem hi, List.getD_eq_getElem?_getD, List.getElem?_eq_getElem hi]
    rfl

theorem wpList_clone (w : World) {ops : Array Oper} {rest : List Oper} {o : Oper} {a : Act} {Q : Exit → Act → World → Prop} (hgd : o.guard = none) (s x : Operand)
    (ho : o.op = .call { callee := .builtin .append, args := #[s, x], argTypes := #[22, 22] }) (hs : a.eval s = .slice (some ⟨w.heap.size, 0, none⟩) 0 0)
    (ad : Option Addr) (n cap : Nat) (hx : a.eval x = .slice ad n cap) (hnil : ad = none → cap = 0) (xs : List Int) (hn : xs.length = n) (hr : Rd w ad xs) (hb : n ≤ 5000)
    (h : ∀ v' W, W.ownsRow w.heap.size 5 1 v' n (xs.map (Value.int .u8)) → Below w.heap.size w W → wpList Try.prog ops Q rest (a.put o.dst v') W) :
    wpList Try.prog ops Q (o :: rest) a (w.alloc (.cells #[] 5)) := by
  subst hn
  obtain ⟨i0, hi, hz0, hz1, hz2⟩ := info_parts info5
  have own : (w.alloc (.cells #[] 5)).ownsRow w.heap.size 5 1 (.slice (some ⟨w.heap.size, 0, none⟩) 0 0) 0 [] :=
    World.ownsRow_lit w #[] 0 (Nat.le_refl _) (Nat.zero_le _) rfl
  have bel : Below w.heap.size w (w.alloc (.cells #[] 5)) := (Below.refl _ _).alloc (Nat.le_refl _) _
  have hr' := rd_alloc hr (.cells #[] 5)
  rcases ad with _ | ad
  · have h0 : xs = [] := by
      rcases hr with h | ⟨b, off, h, _⟩
      · exact h
      · cases h
    subst h0
    have hx' : a.eval x = .slice none 0 0 := by rw [hx, hnil rfl]; rfl
    exact wpList_append_own_none hgd s x 22 ho w.heap.size 5 i0 1 Try.underlying22 hi _ 0 [] hs own hx' (h _ _ own bel)
  · refine wpList_append_own _ hgd s x 22 ho w.heap.size 5 i0 (.int .u8 0) 1 1 Try.underlying22 hi hz0 hz1 hz2 rfl (by decide) _ 0 [] hs own ad xs.length cap (xs.map (Value.int .u8)) hx (by simp) ?_ (by
      intro u hu
      obtain ⟨n, _, rfl⟩ := List.mem_map.1 hu
      rfl) (by unfold maxLen; omega) (by omega) (by simp) ?_
    · intro j u hj
      rcases hr' with rfl | ⟨b, off, he, hc⟩
      · simp at hj
      · obtain rfl := Option.some.inj he
        rw [List.getElem?_map] at hj
        by_cases hlt : j < xs.length
        · rw [List.getElem?_eq_getElem hlt] at hj
          have hc' := hc j hlt
          rw [List.getD_eq_getElem?_getD, List.getElem?_eq_getElem hlt] at hc'
          rw [show Addr.add ⟨b, off, none⟩ j = ⟨b, off + j, none⟩ by unfold Addr.add; split <;> simp_all, hc']
          simpa using hj
        · rw [List.getElem?_eq_none (by omega)] at hj
          cases hj
    · intro v' W h1 h2 _
      rw [Nat.zero_add, List.nil_append] at h1
      exact h v' W h1 (bel.grown h2 (by simp) (fun k hk => by simp [Value.ownBlock] at hk; omega))

theorem sum_len (a : Option Addr) (xs : List Int) (n cap : Nat) (w : World) (hn : xs.length = n) (hr : Rd w a xs) (hl : n ≤ 9223372036854775807) (hb : ∀ x ∈ xs, 0 ≤ x ∧ x ≤ 255) :
    Calls Try.prog 10 #[.slice a n cap] w fun e w' => e = .returned (.int .u32 ((more 0#32 xs).toNat : Int)) ∧ w = w' := by
  subst hn
  exact sum_any a xs cap w hr hl hb

end Go.Proofs.Ytpfmcobphaajlaa
