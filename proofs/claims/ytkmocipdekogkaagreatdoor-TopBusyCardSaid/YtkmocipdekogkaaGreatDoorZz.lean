/-
  The law's own loop: what stands there between two rounds of it.
  The law's own walk: a fleet is opened, spans are handed to it, it is left alone for a while, and asked.
-/
import Derived.Test.YtkmocipdekogkaaGreatDoorBt
import Derived.Test.YtkmocipdekogkaaGreatDoorWd
set_option linter.all false
section
namespace Go.Proofs.YtkmocipdekogkaaGreatDoor
set_option linter.unusedVariables false
set_option linter.unusedSimpArgs false
set_option linter.unusedSectionVars false
open Go.RowKit

/-- A trace that fails is kept, one that does not is dropped. -/
theorem alive_at : AliveC := by
  intro W
  obtain ⟨R, F⟩ := env0_rel W
  refine ((callF_ok JB tabF_ok tabF_sub tabF_flat tabF_x (fl := false) (conj := andB) (by simp) andB_ok avH_ok 10000 100).1 7 [] { h := .e, nx := 0 } trueV env0 W [] (by decide) av_run R F .nil).mono fun e w' he => ?_
  obtain ⟨v, s', E', v', rfl, hj, S, R', F', hv⟩ := he
  refine ⟨?_, step0_below S⟩
  have hj' : trueV v s' = true := hj
  unfold trueV at hj'
  split at hj'
  · subst hj'; cases hv; rfl
  · cases hj'

theorem At1.grown {σ : Sh} {E : Env} {w w' : World} {fl : Loc} {n : Nat} {T : List (List Value)} {K K' : Nat → Prop} (H : At1 σ E w fl n T K) {r : Option Nat} (hg : w.grownBy w' r) (hr : ∀ q, r = some q → K q) (hK : ∀ q, K' q → K q ∨ w.heap.size ≤ q) : At1 σ E w' fl n T K' :=
  ⟨H.mem, ⟨fun b o l hb hE => (H.rel.obj b o l hb hE).congr (hg.block l.g (H.rel.obj b o l hb hE).lt (fun he => H.apart b o l hb hE (hr _ he.symm))), H.rel.inj, H.rel.facts⟩, H.fresh, H.dom, H.base, H.at2, H.spans, fun b o l hb hE hk => by
    rcases hK _ hk with h | h
    · exact H.apart b o l hb hE h
    · have := (H.rel.obj b o l hb hE).lt; omega⟩
theorem own_kept {W V : World} {B e sz n : Nat} {v : Value} {xs : List Value} (h : W.ownsRow B e sz v n xs) (hb : ∀ q, v.ownBlock = some q → V.heap[q]? = W.heap[q]?) : V.ownsRow B e sz v n xs := by
  obtain ⟨h1, h2⟩ := h
  refine ⟨h1, ?_⟩
  rcases h2 with ⟨rfl, h0⟩ | ⟨g, cap, cur, rfl, hg, hw, h3⟩
  · exact .inl ⟨rfl, h0⟩
  · exact .inr ⟨g, cap, cur, rfl, hg, by rw [hb g rfl]; exact hw, h3⟩
theorem own_from {W : World} {B e sz n : Nat} {v : Value} {xs : List Value} (h : W.ownsRow B e sz v n xs) : ∀ q, v.ownBlock = some q → B ≤ q := by
  intro q hq
  rcases h.2 with ⟨rfl, _⟩ | ⟨g, cap, cur, rfl, hg, _⟩
  · cases hq
  · obtain rfl : g = q := by simpa [Value.ownBlock] using hq
    exact hg
/-- The blocks that are not the fleet's. -/
def KK (n0 : Nat) (tk gn : Value) : Nat → Prop := fun q => q < n0 ∨ tk.ownBlock = some q ∨ gn.ownBlock = some q
/-- Between two rounds. -/
structure BInv (w0 : World) (fl : Loc) (k : Nat) (T : List (List Value)) (tk gn : Value) (A B : List Sp) (w : World) : Prop where
  fitB : ∀ s ∈ B, 0 < s.t ∧ s.t < 2 ^ 64
  at1 : ∃ σ E, At1 σ E w fl k T (KK w0.heap.size tk gn)
  ownA : w.ownsRow w0.heap.size 36 8 tk A.length (A.flatMap Sp.vs)
  ownB : w.ownsRow w0.heap.size 36 8 gn B.length (B.flatMap Sp.vs)
  apart : ∀ q, tk.ownBlock = some q → gn.ownBlock = some q → False
  below : Below w0.heap.size w0 w
section
variable {w0 w w' : World} {fl : Loc} {k : Nat} {T : List (List Value)} {tk gn v' : Value} {A B : List Sp}
theorem BInv.more (I : BInv w0 fl k T tk gn A B w) (h : Below w.heap.size w w') : BInv w0 fl k T tk gn A B w' := by
  obtain ⟨σ, E, H⟩ := I.at1
  exact ⟨I.fitB, ⟨σ, E, H.more h⟩, own_on I.ownA h, own_on I.ownB h, I.apart, I.below.trans (h.mono I.below.size)⟩
theorem BInv.kLt (I : BInv w0 fl k T tk gn A B w) : ∀ q, KK w0.heap.size tk gn q → q < w.heap.size := by
  intro q hq
  rcases hq with h | h | h
  · exact Nat.lt_of_lt_of_le h I.below.size
  · exact own_lt I.ownA q h
  · exact own_lt I.ownB q h
theorem BInv.start {w1 : World} (hw : Below w0.heap.size w0 w1) (h : ∃ σ E, At1 σ E w fl 0 [] (fun q => q < w1.heap.size)) (hb : Below w1.heap.size w1 w) : BInv w0 fl 0 [] (.slice none 0 0) (.slice none 0 0) [] [] w := by
  obtain ⟨σ, E, H⟩ := h
  refine ⟨by simp, ⟨σ, E, H.mem, H.rel, H.fresh, H.dom, H.base, H.at2, H.spans, fun b o l hb' hE hk => ?_⟩, World.ownsRow_nil _ _ _ _, World.ownsRow_nil _ _ _ _, fun q h => (by cases h), hw.trans (hb.mono hw.size)⟩
  rcases hk with h | h | h
  · exact H.apart b o l hb' hE (Nat.lt_of_lt_of_le h hw.size)
  · cases h
  · cases h
/-- The fleet has been handed one more. -/
theorem BInv.done (I : BInv w0 fl k T tk gn A B w) {vs : List Value} {e : Ending} (h : Done fl k T vs (KK w0.heap.size tk gn) w e w') :
    (e = .returned (.int .i64 0) ∧ BInv w0 fl (k + 1) (T ++ [vs]) tk gn A B w') ∨ (e = .returned (.int .i64 8) ∧ BInv w0 fl (k + 1) T tk gn A B w') := by
  obtain ⟨r, σ', E2, hr, he, H, hk, hsz, ht, ho, hu⟩ := h
  have hA := own_kept I.ownA (V := w') fun q hq => hk q (.inr (.inl hq))
  have hB := own_kept I.ownB (V := w') fun q hq => hk q (.inr (.inr hq))
  have hb : Below w0.heap.size w0 w' := ⟨ho.trans I.below.os, ht.trans I.below.tape, hu.trans I.below.output, Nat.le_trans I.below.size hsz, fun q hq => (hk q (.inl hq)).trans (I.below.block q hq)⟩
  rcases hr with rfl | rfl
  · exact .inl ⟨he, I.fitB, ⟨σ', E2, by simpa using H⟩, hA, hB, I.apart, hb⟩
  · exact .inr ⟨he, I.fitB, ⟨σ', E2, by simpa using H⟩, hA, hB, I.apart, hb⟩
theorem BInv.grewA (I : BInv w0 fl k T tk gn A B w) (s : Sp) (hown : w'.ownsRow w0.heap.size 36 8 v' (A.length + 1) (A.flatMap Sp.vs ++ s.vs)) (hg : w.grownBy w' tk.ownBlock) (hat : v'.ownBlock = tk.ownBlock ∨ v'.ownBlock = some w.heap.size) :
    BInv w0 fl k T v' gn (A ++ [s]) B w' := by
  obtain ⟨σ, E, H⟩ := I.at1
  refine ⟨I.fitB, ⟨σ, E, H.grown hg (fun q hq => .inr (.inl hq)) (fun q hq => ?_)⟩, by simpa [List.flatMap_append] using hown, own_kept I.ownB fun q hq => hg.block q (own_lt I.ownB q hq) (fun he => I.apart q he.symm hq), fun q h1 h2 => ?_, I.below.grown hg I.below.size fun q hq => own_from I.ownA q hq⟩
  · rcases hq with h | h | h
    · exact .inl (.inl h)
    · rcases hat with h' | h' <;> rw [h'] at h
      · exact .inl (.inr (.inl h))
      · cases h; exact .inr (Nat.le_refl _)
    · exact .inl (.inr (.inr h))
  · rcases hat with h' | h' <;> rw [h'] at h1
    · exact I.apart q h1 h2
    · cases h1
      exact absurd (own_lt I.ownB _ h2) (Nat.lt_irrefl _)
theorem BInv.grewB (I : BInv w0 fl k T tk gn A B w) (s : Sp) (hs : 0 < s.t ∧ s.t < 2 ^ 64) (hown : w'.ownsRow w0.heap.size 36 8 v' (B.length + 1) (B.flatMap Sp.vs ++ s.vs)) (hg : w.grownBy w' gn.ownBlock) (hat : v'.ownBlock = gn.ownBlock ∨ v'.ownBlock = some w.heap.size) :
    BInv w0 fl k T tk v' A (B ++ [s]) w' := by
  obtain ⟨σ, E, H⟩ := I.at1
  refine ⟨fun x hx => ?_, ⟨σ, E, H.grown hg (fun q hq => .inr (.inr hq)) (fun q hq => ?_)⟩, own_kept I.ownA fun q hq => hg.block q (own_lt I.ownA q hq) (fun he => I.apart q hq he.symm), by simpa [List.flatMap_append] using hown, fun q h1 h2 => ?_, I.below.grown hg I.below.size fun q hq => own_from I.ownB q hq⟩
  · rcases List.mem_append.1 hx with h | h
    · exact I.fitB x h
    · rw [List.mem_singleton.1 h]; exact hs
  · rcases hq with h | h | h
    · exact .inl (.inl h)
    · exact .inl (.inr (.inl h))
    · rcases hat with h' | h' <;> rw [h'] at h
      · exact .inl (.inr (.inr h))
      · cases h; exact .inr (Nat.le_refl _)
  · rcases hat with h' | h' <;> rw [h'] at h2
    · exact I.apart q h1 h2
    · cases h2
      exact absurd (own_lt I.ownA _ h1) (Nat.lt_irrefl _)
/-- An element of the argument. -/
theorem RdS.at {a : Option Addr} {L : List Sp} (h : RdS w0 a L) (hb : Below w0.heap.size w0 w) {j : Nat} {s : Sp} (hj : L[j]? = some s) : ∃ b off, a = some ⟨b, off, none⟩ ∧ ∀ i v, s.vs[i]? = some v → w.cell? ⟨b, off + j * 8 + i, none⟩ = some v := by
  rcases h with rfl | ⟨b, off, rfl, h⟩
  · cases hj
  · refine ⟨b, off, rfl, fun i v hi => ?_⟩
    have := h j s hj i v hi
    rw [hb.cell (World.block_lt_of_cell? w0 _ this)]
    exact this
/-- Behind the calm. -/
structure CInv (w0 : World) (fl : Loc) (T : List (List Value)) (tk gn : Value) (A B : List Sp) (w : World) : Prop where
  fitB : ∀ s ∈ B, 0 < s.t ∧ s.t < 2 ^ 64
  atF : ∃ κ s E, AtF κ s E w fl T (KK w0.heap.size tk gn)
  ownA : w.ownsRow w0.heap.size 36 8 tk A.length (A.flatMap Sp.vs)
  ownB : w.ownsRow w0.heap.size 36 8 gn B.length (B.flatMap Sp.vs)
  below : Below w0.heap.size w0 w
theorem Kept.below (hk : Kept (KK w0.heap.size tk gn) w w') (h : Below w0.heap.size w0 w) : Below w0.heap.size w0 w' :=
  ⟨hk.os.trans h.os, hk.tape.trans h.tape, hk.output.trans h.output, Nat.le_trans h.size hk.size, fun q hq => (hk.heap q (.inl hq)).trans (h.block q hq)⟩
theorem BInv.calm (I : BInv w0 fl k T tk gn A B w) (h : Calmed fl T (KK w0.heap.size tk gn) w w') : CInv w0 fl T tk gn A B w' := by
  obtain ⟨h1, h2⟩ := h
  exact ⟨I.fitB, h1, own_kept I.ownA fun q hq => h2.heap q (.inr (.inl hq)), own_kept I.ownB fun q hq => h2.heap q (.inr (.inr hq)), h2.below I.below⟩
theorem CInv.kLt (I : CInv w0 fl T tk gn A B w) : ∀ q, KK w0.heap.size tk gn q → q < w.heap.size := by
  intro q hq
  rcases hq with h | h | h
  · exact Nat.lt_of_lt_of_le h I.below.size
  · exact own_lt I.ownA q h
  · exact own_lt I.ownB q h
theorem CInv.asked (I : CInv w0 fl T tk gn A B w) (h1 : ∃ κ s E, AtF κ s E w' fl T (KK w0.heap.size tk gn)) (h2 : Kept (KK w0.heap.size tk gn) w w') : CInv w0 fl T tk gn A B w' :=
  ⟨I.fitB, h1, own_kept I.ownA fun q hq => h2.heap q (.inr (.inl hq)), own_kept I.ownB fun q hq => h2.heap q (.inr (.inr hq)), h2.below I.below⟩
theorem CInv.more (I : CInv w0 fl T tk gn A B w) (h : Below w.heap.size w w') : CInv w0 fl T tk gn A B w' := by
  obtain ⟨κ, s, E, H⟩ := I.atF
  exact ⟨I.fitB, ⟨κ, s, E, H.fin, H.rel.more h.block, H.fresh, H.dom, H.at2, H.spans, H.apart⟩, own_on I.ownA h, own_on I.ownB h, I.below.trans (h.mono I.below.size)⟩
theorem flat8 : ∀ {A : List Sp} {x i : Nat} {s : Sp}, A[x]? = some s → i < 8 → (A.flatMap Sp.vs)[x * 8 + i]? = s.vs[i]?
  | [], x, i, s, h, _ => by cases h
  | a :: r, 0, i, s, h, hi => by
    cases h
    rw [List.flatMap_cons, Nat.zero_mul, Nat.zero_add, List.getElem?_append_left (by exact hi)]
  | a :: r, x + 1, i, s, h, hi => by
    have h' : r[x]? = some s := h
    rw [List.flatMap_cons, show (x + 1) * 8 + i = 8 + (x * 8 + i) by omega, List.getElem?_append_right (by show a.vs.length ≤ _; have : a.vs.length = 8 := rfl; omega)]
    have e : 8 + (x * 8 + i) - a.vs.length = x * 8 + i := by have : a.vs.length = 8 := rfl; omega
    rw [e]; exact flat8 h' hi
/-- An element of a row that the call owns. -/
theorem own_elem {v : Value} (h : w.ownsRow w0.heap.size 36 8 v A.length (A.flatMap Sp.vs)) {x : Nat} {s : Sp} (hx : A[x]? = some s) : ∃ g cap, v = .slice (some ⟨g, 0, none⟩) A.length cap ∧ ∀ i v, s.vs[i]? = some v → w.cell? ⟨g, x * 8 + i, none⟩ = some v := by
  have hlt : x < A.length := by
    rcases Nat.lt_or_ge x A.length with h | h
    · exact h
    · rw [List.getElem?_eq_none h] at hx; cases hx
  have hh := h
  rcases hh.2 with ⟨_, h0⟩ | ⟨g, cap, cur, rfl, _⟩
  · omega
  · refine ⟨g, cap, rfl, fun i u hi => ?_⟩
    have hi8 : i < 8 := by
      rcases Nat.lt_or_ge i 8 with h | h
      · exact h
      · rw [List.getElem?_eq_none (by exact h)] at hi; cases hi
    rw [h.cellAt (x * 8 + i) (by omega), flat8 hx hi8]; exact hi
/-- An element of a query's answer. -/
theorem ask_elem {x : Value} (h : QOk (A.map Sp.vs) w x) : x = .slice none 0 0 ∨ ∃ (g o n c : Nat), x = .slice (some ⟨g, o, none⟩) n c ∧ n ≤ c ∧ n ≤ 1000 ∧ ∀ k, k < n → ∃ (j : Nat) (s : Sp), A[j]? = some s ∧ ∀ i v, s.vs[i]? = some v → w.cell? ⟨g, o + k * 8 + i, none⟩ = some v := by
  rcases h with h | ⟨g, o, n, c, row, ty, rfl, hw, hc, h1000, hk⟩
  · exact .inl h
  · refine .inr ⟨g, o, n, c, rfl, hc, h1000, fun k hkn => ?_⟩
    obtain ⟨r, hr, h8, he⟩ := hk k hkn
    obtain ⟨s, hs, rfl⟩ := List.mem_map.1 hr
    obtain ⟨j, hj⟩ := List.getElem?_of_mem hs
    refine ⟨j, s, hj, fun i v hi => ?_⟩
    have hi8 : i < 8 := by
      rcases Nat.lt_or_ge i 8 with h | h
      · exact h
      · rw [List.getElem?_eq_none (by exact h)] at hi; cases hi
    rw [cell_of_row _ g (o + k * 8 + i) row ty (0, 0) hw, ← Array.getElem?_toList]
    rw [← he, List.getElem?_take_of_lt hi8, List.getElem?_drop] at hi
    rw [← hi]
    congr 1
    omega
end
end Go.Proofs.YtkmocipdekogkaaGreatDoor
end
section
namespace Go.Proofs.YtkmocipdekogkaaGreatDoor
set_option linter.unusedVariables false
set_option linter.unusedSimpArgs false
open Go.RowKit
theorem st36 : Tryz.prog.stoodInHeld 36 = false := by kernel_rfl
theorem eg36 : Tryz.prog.eqGuardType Tryz.prog.depth 36 = false := by kernel_rfl
set_option maxRecDepth 100000 in
theorem un36 : Tryz.prog.underlying 36 = some (.struct (Tryz.prog.fieldsOf 36)) := by
  simp only [Program.fieldsOf, Tryz.underlying36]
set_option maxRecDepth 100000 in
theorem eq36 (t i p a l t' i' p' a' l' : Int) (x y x' y' : ByteArray) (f f' : Bool) :
  ∃ b : Bool, (∀ w : World, (Op.equalIn 10000 36 (.agg #[.int .u64 t, .int .u64 i, .int .u64 p, .int .u64 a, .int .u64 l, .string x, .string y, .bool f]) (.agg #[.int .u64 t', .int .u64 i', .int .u64 p', .int .u64 a', .int .u64 l', .string x', .string y', .bool f'])).run Tryz.prog w = .ok b w) ∧
    (t = t' → i = i' → p = p' → a = a' → l = l' → x = x' → y = y' → f = f' → b = true) := by
  have key : ∀ w : World, (Op.equalIn 10000 36 (.agg #[.int .u64 t, .int .u64 i, .int .u64 p, .int .u64 a, .int .u64 l, .string x, .string y, .bool f]) (.agg #[.int .u64 t', .int .u64 i', .int .u64 p', .int .u64 a', .int .u64 l', .string x', .string y', .bool f'])).run Tryz.prog w =
      if t = t' then if i = i' then if p = p' then if a = a' then if l = l' then if x.toList = x'.toList then if y.toList = y'.toList then if f = f' then Result.ok true w else Result.ok false w
        else Result.ok false w else Result.ok false w else Result.ok false w else Result.ok false w else Result.ok false w else Result.ok false w else Result.ok false w := by
    intro w
    rw [run_equalIn_struct w 9999 36 _ _ un36 st36]
    simp only [Program.fieldsOf, Tryz.underlying36]
    simp [go_sem, Op.eqFields]
  by_cases h : t = t' ∧ i = i' ∧ p = p' ∧ a = a' ∧ l = l' ∧ x.toList = x'.toList ∧ y.toList = y'.toList ∧ f = f'
  · obtain ⟨h1, h2, h3, h4, h5, h6, h7, h8⟩ := h
    exact ⟨true, fun w => by rw [key w, if_pos h1, if_pos h2, if_pos h3, if_pos h4, if_pos h5, if_pos h6, if_pos h7, if_pos h8], fun _ _ _ _ _ _ _ _ => rfl⟩
  · refine ⟨false, fun w => ?_, fun h1 h2 h3 h4 h5 h6 h7 h8 => absurd ⟨h1, h2, h3, h4, h5, by rw [h6], by rw [h7], h8⟩ h⟩
    rw [key w]
    split
    · split
      · split
        · split
          · split
            · split
              · split
                · split
                  · exact absurd ⟨by assumption, by assumption, by assumption, by assumption, by assumption, by assumption, by assumption, by assumption⟩ h
                  · rfl
                · rfl
              · rfl
            · rfl
          · rfl
        · rfl
      · rfl
    · rfl
def CalmC : Prop := ∀ {σ : Sh} {E : Env} {w : World} {fl : Loc} {n : Nat} {T : List (List Value)} {K : Nat → Prop} (H : At1 σ E w fl n T K) (hK : ∀ g, K g → g < w.heap.size),
  Calls Tryz.prog 14 #[.pointer (some ⟨fl.g, fl.sh + 0, none⟩), .int .i64 30] w fun e w' => e = .returned (.tuple #[]) ∧ Calmed fl T K w w'
theorem info36 : (Tryz.prog.info? 36).map (fun i => (i.size, i.bytes, i.zero.map (fun z => z.cells.size))) = some (8, 80, some 8) := by kernel_rfl
theorem info36_parts : ∃ i z, Tryz.prog.info? 36 = some i ∧ i.zero = some z ∧ i.size = 8 ∧ i.bytes = 80 ∧ z.cells.size = 8 := by
  have h := info36
  cases hi : Tryz.prog.info? 36 with
  | none => rw [hi] at h; cases h
  | some i =>
    rw [hi] at h
    simp only [Option.map_some, Option.some.injEq, Prod.mk.injEq] at h
    obtain ⟨h1, h2, h3⟩ := h
    cases hz : i.zero with
    | none => rw [hz] at h3; cases h3
    | some z =>
      rw [hz] at h3
      simp only [Option.map_some, Option.some.injEq] at h3
      exact ⟨i, z, rfl, hz, h1, h2, h3⟩
theorem sp_agg (s : Sp) : spanV s.t s.i s.p s.a s.l s.x s.y s.f = #[.int .u64 s.t, .int .u64 s.i, .int .u64 s.p, .int .u64 s.a, .int .u64 s.l, .string s.x, .string s.y, .bool s.f] := rfl
theorem news8 (w : World) (r : Array Value) (t : TypeId) : ∀ j u, r.toList[j]? = some u → (w.alloc (.cells r t)).cell? ((⟨w.heap.size, 0, none⟩ : Addr).add j) = some u := by
  intro j u hj
  have e : (⟨w.heap.size, 0, none⟩ : Addr).add j = ⟨w.heap.size, 0 + j, none⟩ := by simp [Addr.add]; exact fun h => h.symm
  rw [e, cell_of_row _ w.heap.size (0 + j) r t (0, 0) (heap_alloc_new w _), Nat.zero_add, ← Array.getElem?_toList]
  exact hj
theorem one8s (s : Sp) : ∀ u ∈ s.vs, u.oneCell' = true := by
  intro u hu
  simp only [Sp.vs, spanV, List.mem_cons, List.not_mem_nil, or_false] at hu
  rcases hu with rfl | rfl | rfl | rfl | rfl | rfl | rfl | rfl <;> rfl
theorem map_snoc (A : List Sp) (s : Sp) : A.map Sp.vs ++ [(spanV s.t s.i s.p s.a s.l s.x s.y s.f).toList] = (A ++ [s]).map Sp.vs := by simp [Sp.vs]
theorem own_slice2 {w : World} {B e sz n : Nat} {v : Value} {xs : List Value} (h : w.ownsRow B e sz v n xs) : ∃ a c, v = .slice a n c := by
  rcases h.2 with ⟨rfl, rfl⟩ | ⟨g, cap, cur, rfl, _⟩
  · exact ⟨_, _, rfl⟩
  · exact ⟨_, _, rfl⟩
/-- A span at its cells. -/
def Cl8 (W : World) (b o : Nat) (s : Sp) : Prop := W.cell? ⟨b, o, none⟩ = some (.int .u64 s.t) ∧ W.cell? ⟨b, o + 1, none⟩ = some (.int .u64 s.i) ∧ W.cell? ⟨b, o + 2, none⟩ = some (.int .u64 s.p) ∧ W.cell? ⟨b, o + 3, none⟩ = some (.int .u64 s.a) ∧ W.cell? ⟨b, o + 4, none⟩ = some (.int .u64 s.l) ∧ W.cell? ⟨b, o + 5, none⟩ = some (.string s.x) ∧ W.cell? ⟨b, o + 6, none⟩ = some (.string s.y) ∧ W.cell? ⟨b, o + 7, none⟩ = some (.bool s.f)
theorem cl8_of {W : World} {b o : Nat} {s : Sp} (h : ∀ i v, s.vs[i]? = some v → W.cell? ⟨b, o + i, none⟩ = some v) : Cl8 W b o s :=
  ⟨h 0 _ rfl, h 1 _ rfl, h 2 _ rfl, h 3 _ rfl, h 4 _ rfl, h 5 _ rfl, h 6 _ rfl, h 7 _ rfl⟩
theorem RdS.cl {w0 : World} {a : Option Addr} {L : List Sp} (h : RdS w0 a L) {j : Nat} {s : Sp} (hj : L[j]? = some s) : ∃ b off, a = some ⟨b, off, none⟩ ∧ ∀ W, Below w0.heap.size w0 W → Cl8 W b (off + j * 8) s := by
  rcases h with rfl | ⟨b, off, rfl, h⟩
  · cases hj
  · refine ⟨b, off, rfl, fun W hb => cl8_of fun i v hi => ?_⟩
    have := h j s hj i v hi
    rw [hb.cell (World.block_lt_of_cell? w0 _ this)]
    exact this
set_option maxRecDepth 100000 in
set_option maxHeartbeats 20000000 in
theorem busy_main (hA : AliveC) (hC : CalmC) (L : List Sp) (a : Option Addr) (cap : Nat) (w : World) (h1 : 1 ≤ L.length) (h12 : L.length ≤ 12) (hr : RdS w a L) (hf : ∀ s ∈ L, s.Fit) :
    Calls Tryz.prog 3 #[.slice a L.length cap] w fun e w' => e = .returned (.bool true) ∧ Below w.heap.size w w' := by
  unfold AliveC at hA
  have d1 : decide ((L.length : Int) < 1) = false := by simp; omega
  have d2 : decide ((L.length : Int) > 12) = false := by simp; omega
  have hP : ∀ W, Calls Tryz.prog 8 #[.int .i64 1, .int .i64 1] W fun e w' => e = .returned (.agg #[.int .i64 1, .int .i64 1, .int .i64 3, .int .u64 3, .int .u64 12, .int .u64 6, .int .u64 3, .int .i64 8, .int .i64 8, .int .i64 16, .string polB, .int .i64 1048576, .int .i64 4096]) ∧ Below W.heap.size W w' := fun W => plain_at W
  have hO : ∀ W, Calls Tryz.prog 10 #[.agg #[.int .i64 1, .int .i64 1, .int .i64 3, .int .u64 3, .int .u64 12, .int .u64 6, .int .u64 3, .int .i64 2, .int .i64 2, .int .i64 16, .string polB, .int .i64 1048576, .int .i64 4096]] W fun e w' => e = .returned (.agg (cfgV 2).toArray) ∧ Below W.heap.size W w' := fun W => own_at W
  have hN := new_at
  generalize polB = pol at hP hO
  generalize (cfgV 2).toArray = own at hO hN
  obtain ⟨i0, z0, hi0, hz0, h80, h800, hzc⟩ := info36_parts
  have HD := hidden (And.intro h1 (And.intro h12 (And.intro hr hf)))
  clear h1 h12 hr hf
  go_enter Tryz.func3, Tryz.ntmps3
  go_wp2_with (first
    | (refine (hP _).mono ?_; rintro e w1 ⟨rfl, hb1⟩)
    | (refine (hO _).mono ?_; rintro e w2 ⟨rfl, hb2⟩)
    | (refine (hN _).mono ?_; rintro e w3 ⟨fl, rfl, hat, hb3⟩))
  have hI : ∃ A B : List Sp, A.length + B.length = 0 ∧ BInv w fl 0 (A.map Sp.vs) (.slice none 0 0) (.slice none 0 0) A B w3 := ⟨[], [], rfl, BInv.start (hb1.trans ((show Below w1.heap.size w1 w2 from (bel_0 _ _).trans (hb2.mono (by simp))).mono hb1.size)) hat hb3⟩
  clear hN hP hO hb1 hb2 hb3 hat d1 d2
  go_loopw [8, 6, 7] (fun i tk gn wr => ∃ (k : Nat) (A B : List Sp), k ≤ L.length ∧ i = .int .i64 k ∧ A.length + B.length = k ∧ BInv w fl k (A.map Sp.vs) tk gn A B wr) (fun i _ _ _ => L.length - (intOf i).toNat)
  case atStart => 
    obtain ⟨A, B, q1, q2⟩ := hI
    exact ⟨0, A, B, Nat.zero_le _, rfl, q1, q2⟩
  case round =>
    obtain ⟨k, A, B, hk, rfl, hlen, I⟩ := hrel
    clear hI
    by_cases hlt : k < L.length
    · obtain ⟨h1, h12, hr, hf⟩ := HD.out
      obtain ⟨b, off, rfl, hcl⟩ := hr.cl (List.getElem?_eq_getElem hlt)
      have hfit := hf _ (List.getElem_mem hlt)
      generalize L[k] = s at hcl hfit
      have HC := hidden hcl
      obtain ⟨c0, c1, c2, c3, c4, c5, c6, c7⟩ := hcl _ I.below
      clear h1 h12 hr hf hcl
      have hRt := fun W => right11 s.t s.i s.p s.a s.l s.x s.y s.f W
      have hRw := fun W hR => raw13 s.t s.i s.p s.a s.l s.x s.y s.f W hR hfit.1 hfit.2.1 hfit.2.2.1
      have hDo := fun (W W' : World) (σ : Sh) (E : Env) (H : At1 σ E W fl k (A.map Sp.vs) (KK w.heap.size u6 u7)) (hR : rightF s.t s.i s.a s.l s.x s.y = 0) (hK : ∀ q, KK w.heap.size u6 u7 q → q < W.heap.size) (hb : Below W.heap.size W W') (v : Value) hown => do_raw (w' := W') H (by have := HD.out.2.1; unfold baseMax; omega) (t := s.t) (i := s.i) (p := s.p) (a := s.a) (l := s.l) (x := s.x) (y := s.y) (f := s.f) ⟨(rightF_ok hR).1, hfit.1⟩ ⟨(rightF_ok hR).2.1, hfit.2.1⟩ hfit.2.2.1 (rightF_ok hR).2.2.1 (rightF_ok hR).2.2.2.1 (rightF_ok hR).2.2.2.2.1 (rightF_ok hR).2.2.2.2.2 hK hb (v := v) hown
      unfold spanV at hRt hRw hDo
      generalize hRR : rightF s.t s.i s.a s.l s.x s.y = r at hRt hRw hDo
      go_wp2_with fail
      refine (hRt _).mono ?_
      rintro e w4 ⟨rfl, hb4⟩
      have I4 := I.more hb4
      clear hRt c0 c1 c2 c3 c4 c5 c6 c7
      obtain ⟨c0, c1, c2, c3, c4, c5, c6, c7⟩ := HC.out _ I4.below
      by_cases hR : r = 0
      · subst hR
        have HT := hidden (And.intro (rightF_ok hRR).1 hfit.1)
        go_wp2_with fail
        refine (hRw _ (by simp)).mono ?_
        rintro e w5 ⟨⟨v, rfl, hraw⟩, hb5⟩
        obtain ⟨g5, k5, rfl⟩ := own_form hraw (by omega)
        obtain ⟨σ, E, H⟩ := I4.at1
        have hDo' := hDo _ _ _ _ H (by simp) I4.kLt hb5 _ hraw
        unfold opV at hDo'
        clear hDo hRw
        go_wp2_with fail
        refine hDo'.mono ?_
        intro e w6 hdone
        rcases (I4.more hb5).done hdone with ⟨rfl, I6⟩ | ⟨rfl, I6⟩
        · clear hDo' hraw hdone H c0 c1 c2 c3 c4 c5 c6 c7
          obtain ⟨c0, c1, c2, c3, c4, c5, c6, c7⟩ := HC.out _ I6.below
          have hA12 := HD.out.2.1
          have hsz6 := I6.below.size
          go_wp2_with (at_builtin; refine wpList_append_own_at _ rfl (.tmp 62) (.tmp 67) 22 rfl w.heap.size 36 i0 z0 8 80 Tryz.underlying22 hi0 hz0 h80 h800 hzc (by decide) u6 A.length (A.flatMap Sp.vs) rfl (own_on I6.ownA (bel_0 _ _)) ⟨w6.heap.size, 0, none⟩ 1 1 s.vs rfl rfl (news8 w6 (spanV s.t s.i s.p s.a s.l s.x s.y s.f) 36) (one8s s) (by unfold maxLen; omega) (by omega) (by simp; omega) ?_; intro v3 W3 hown3 hgrow3 hnil3 hblk3)
          go_roundw
          case rel =>
            have I7 := I6.more (bel_0 w6 (.cells (spanV s.t s.i s.p s.a s.l s.x s.y s.f) 36))
            have I8 := I7.grewA s hown3 hgrow3 hblk3
            exact ⟨k + 1, A ++ [s], B, by omega, by go_num, by simp; omega, by rw [← map_snoc]; exact I8⟩
          case measure => simp [intOf]; omega
        · clear hDo' hraw hdone H c0 c1 c2 c3 c4 c5 c6 c7
          obtain ⟨c0, c1, c2, c3, c4, c5, c6, c7⟩ := HC.out _ I6.below
          have hA12 := HD.out.2.1
          have hsz6 := I6.below.size
          go_wp2_with (at_builtin; refine wpList_append_own_at _ rfl (.tmp 71) (.tmp 76) 22 rfl w.heap.size 36 i0 z0 8 80 Tryz.underlying22 hi0 hz0 h80 h800 hzc (by decide) u7 B.length (B.flatMap Sp.vs) rfl (own_on I6.ownB (bel_0 _ _)) ⟨w6.heap.size, 0, none⟩ 1 1 s.vs rfl rfl (news8 w6 (spanV s.t s.i s.p s.a s.l s.x s.y s.f) 36) (one8s s) (by unfold maxLen; omega) (by omega) (by simp; omega) ?_; intro v3 W3 hown3 hgrow3 hnil3 hblk3)
          go_roundw
          case rel =>
            have I7 := I6.more (bel_0 w6 (.cells (spanV s.t s.i s.p s.a s.l s.x s.y s.f) 36))
            have I8 := I7.grewB s HT.out hown3 hgrow3 hblk3
            exact ⟨k + 1, A, B ++ [s], by omega, by go_num, by simp; omega, I8⟩
          case measure => simp [intOf]; omega
      · have dR : decide (r = 0) = false := by simp [hR]
        have hn : (r != 0) = true := by simp [hR]
        clear hRw hDo
        go_wp2_with fail
        refine (hA _).mono ?_
        rintro e w5 ⟨rfl, hb5⟩
        go_wp2_with fail
        go_ret
        exact ⟨rfl, I4.below.trans (hb5.mono I4.below.size)⟩
    · obtain rfl : k = L.length := by omega
      go_wp2_with fail
      obtain ⟨σ, E, H⟩ := I.at1
      have hc := hC H I.kLt
      refine hc.mono ?_
      rintro e w4 ⟨rfl, hcalm⟩
      have J := I.calm hcalm
      clear hc hcalm H I
      obtain ⟨a7, n7, rfl⟩ := own_slice2 J.ownB
      obtain ⟨a6, n6, rfl⟩ := own_slice2 J.ownA
      have hA12 := HD.out.2.1
      go_wp2_with fail
      go_loopw [9] (fun i wr => ∃ m : Nat, m ≤ B.length ∧ i = .int .i64 m ∧ CInv w fl (A.map Sp.vs) (.slice a6 A.length n6) (.slice a7 B.length n7) A B wr) (fun i _ => B.length - (intOf i).toNat)
      case atStart => exact ⟨0, Nat.zero_le _, rfl, J⟩
      case round =>
        clear J
        obtain ⟨m, hm, rfl, J2⟩ := hrel
        by_cases hmB : m < B.length
        · obtain ⟨g7, cap7, he7, hcell7⟩ := own_elem J2.ownB (List.getElem?_eq_getElem hmB)
          cases he7
          have c0 := hcell7 0 _ rfl
          rw [Nat.add_zero] at c0
          have ht := J2.fitB _ (List.getElem_mem hmB)
          clear hcell7
          generalize B[m] = s at c0 ht
          obtain ⟨κ, sκ, E, F⟩ := J2.atF
          have hq := query_at F J2.kLt ht
          clear F ht
          go_wp2_with fail
          refine hq.mono ?_
          rintro e w5 ⟨⟨x, rfl, hx⟩, hat, hk5⟩
          obtain ⟨E2, F2⟩ := hat
          have J5 := J2.asked ⟨κ, sκ, E2, F2⟩ hk5
          clear F2
          rcases ask_elem hx with rfl | ⟨gq, o, n, c, rfl, hnc, hn1000, hel⟩
          · clear hq hx hk5 J2
            go_wp2_with fail
            refine wp_loop_rounds 1 ?_
            rw [rounds_succ]
            go_wp2_with fail
            exact ⟨⟨m + 1, by omega, by go_num, J5⟩, by simp [intOf]; omega⟩
          · clear hq hx hk5 J2 c0
            have HJ := hidden J5
            clear J5
            go_wp2_with fail
            go_loopw [12] (fun i wq => ∃ j d : Nat, j ≤ n ∧ i = .int .i64 j ∧ wq = w5.drewN d) (fun i _ => n - (intOf i).toNat)
            case atStart => exact ⟨0, 0, Nat.zero_le _, rfl, rfl⟩
            case round =>
              obtain ⟨j, d, hj, rfl, rfl⟩ := hrel
              by_cases hjn : j < n
              · obtain ⟨jx, s', hjx, hcq⟩ := hel j hjn
                have hjA : jx < A.length := by
                  rcases Nat.lt_or_ge jx A.length with h | h
                  · exact h
                  · rw [List.getElem?_eq_none h] at hjx; cases hjx
                obtain ⟨q0, q1, q2, q3, q4, q5, q6, q7⟩ := cl8_of hcq
                have HX := hidden (And.intro hjx (And.intro hel hjA))
                clear hel hjx hcq
                go_wp2_with fail
                go_loopw [13, 14] (fun is x wq => ∃ (y d : Nat) (bb : Bool), y ≤ A.length ∧ x = .int .i64 y ∧ is = .bool bb ∧ (jx < y → bb = true) ∧ wq = w5.drewN d) (fun _ x _ => A.length - (intOf x).toNat)
                case atStart => exact ⟨0, d, false, Nat.zero_le _, rfl, rfl, fun h => absurd h (Nat.not_lt_zero _), rfl⟩
                case round =>
                  obtain ⟨y, d, bb, hy, rfl, rfl, hbb, rfl⟩ := hrel
                  by_cases hyA : y < A.length
                  · obtain ⟨g6, cap6, he6, hcell6⟩ := own_elem HJ.out.ownA (List.getElem?_eq_getElem hyA)
                    cases he6
                    have hsame : y = jx → A[y] = s' := by
                      rintro rfl
                      have := HX.out.1
                      rw [List.getElem?_eq_getElem hyA] at this
                      exact Option.some.inj this
                    obtain ⟨r0, r1, r2, r3, r4, r5, r6, r7⟩ := cl8_of hcell6
                    clear hcell6
                    generalize A[y] = s1 at r0 r1 r2 r3 r4 r5 r6 r7 hsame
                    have HS := hidden (And.intro hsame hbb)
                    clear hsame
                    have b1 : (y : Int) < (A.length : Int) := by omega
                    have b2 : (j : Int) < (n : Int) := by omega
                    have b3 : (0 : Int) ≤ (y : Int) := by omega
                    have b4 : (0 : Int) ≤ (j : Int) := by omega
                    obtain ⟨eb, heq, hebs⟩ := eq36 s1.t s1.i s1.p s1.a s1.l s'.t s'.i s'.p s'.a s'.l s1.x s1.y s'.x s'.y s1.f s'.f
                    have HE := hidden (show y = jx → eb = true from fun e => by
                      have h := HS.out.1 e
                      subst h
                      exact hebs rfl rfl rfl rfl rfl rfl rfl rfl)
                    clear hebs
                    have hg36 := eg36
                    cases bb
                    · clear hbb
                      go_wp2_with fail
                      go_quiet (fail)
                      go_wp2_with fail
                      exact ⟨⟨y + 1, _, eb, by omega, by go_num, rfl, fun h => HE.out (by
                        rcases Nat.lt_or_ge jx y with h' | h'
                        · exact absurd (HS.out.2 h') (by simp)
                        · omega), rfl⟩, by simp [intOf]; omega⟩
                    · clear hbb
                      go_wp2_with fail
                      go_quiet (fail)
                      go_wp2_with fail
                      exact ⟨⟨y + 1, _, true, by omega, by go_num, rfl, fun _ => rfl, rfl⟩, by simp [intOf]; omega⟩
                  · obtain rfl : bb = true := hbb (by have := HX.out.2.2; omega)
                    go_wp2_with fail
                    exact ⟨⟨j + 1, d, by omega, by go_num, rfl⟩, by simp [intOf]; omega⟩
              · go_wp2_with fail
                exact ⟨⟨m + 1, by omega, by go_num, HJ.out.more (below_drewN (Below.refl _ _) _)⟩, by simp [intOf]; omega⟩
        · obtain rfl : m = B.length := by omega
          obtain ⟨κ, sκ, E, F⟩ := J2.atF
          have hp := pend_at F J2.kLt
          have hsum : ((A.length : Int) + (B.length : Int) == (L.length : Int)) = true := by simp; omega
          go_wp2_with fail
          refine hp.mono ?_
          rintro e w6 ⟨rfl, hk6⟩
          have hbel := hk6.below J2.below
          clear hp F hk6 J2
          go_wp2_with fail
          refine (hA _).mono ?_
          rintro e w7 ⟨rfl, hb7⟩
          go_wp2_with fail
          go_ret
          exact ⟨rfl, hbel.trans (hb7.mono hbel.size)⟩
end Go.Proofs.YtkmocipdekogkaaGreatDoor
end
