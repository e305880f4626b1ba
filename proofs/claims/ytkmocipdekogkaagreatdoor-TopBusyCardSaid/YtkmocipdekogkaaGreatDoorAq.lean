/-
  Functions by contracts of their own: internal/strconv.ParseUint, policy.Parse (a loop over a function), crc.Sum (some number).
  A run in pieces: states written out; a function from one state to another; states under other names.
  Calm in pieces: its loop, from one state that is written out to the next; a fleet that is opened.
  Short names, for states that are written out.
  What a function does not touch stays: the frame of a piece.
-/
import Derived.Test.YtkmocipdekogkaaGreatDoorAv
import Derived.Test.YtkmocipdekogkaaGreatDoorAc
import Derived.Test.YtkmocipdekogkaaGreatDoorAp
import Derived.Test.YtkmocipdekogkaaGreatDoorAl
set_option linter.all false
section
namespace Go.Proofs.YtkmocipdekogkaaGreatDoor
set_option linter.unusedVariables false
set_option linter.unusedSimpArgs false
set_option linter.unusedSectionVars false
noncomputable section

/-- The world may have blocks more. -/
theorem Rel.more {E : Env} {s : St} {w w' : World} (R : Rel E s w) (h : ∀ k, k < w.heap.size → w'.heap[k]? = w.heap[k]?) : Rel E s w' :=
  ⟨fun c oc lc hc hE => by have := R.obj c oc lc hc hE; exact this.congr (h _ this.lt), R.inj, R.facts⟩
theorem Step.more {E : Env} {s : St} {w w' : World} (h : ∀ k, k < w.heap.size → w'.heap[k]? = w.heap[k]?) (hs : w.heap.size ≤ w'.heap.size) (ht : w'.tape = w.tape) (ho : w'.os = w.os) (hp : w'.output = w.output) : Step E s w E s w' :=
  ⟨.refl E, hs, ht, ho, hp, fun k hk _ => h k hk, fun b o l hb hE => .inr ⟨b, o, l, hb, hE, rfl⟩, Nat.le_refl _, fun _ _ h => h⟩
section
variable {β : Type} (fl : β) (conj : β → β → β)
/-- internal/strconv.ParseUint of a numeral. -/
def uintH (args : List AV) (s : St) (k : AV → St → β) : β := match args with
  | [.str t, .int .i64 (.ofNat 10), .int .i64 (.ofNat 64)] => bif Nat.ble t.size 1000000 then (match Lib.parseUintB 64 t.data.toList with | .ok n => k (.tup [.int .u64 n, .nili]) s | _ => fl) else fl
  | _ => fl
/-- crc.Sum: some number. -/
def sumH (args : List AV) (s : St) (k : AV → St → β) : β := match args with
  | [.sl b off len cap] => (match s.rowAt b with | some (cs, _) => bif Nat.ble (off + len) (lenL cs) then (bif fit8 (cutL off len cs) then (bif Nat.ble len 1000000 then k (.anyi .u32) s else fl) else fl) else fl | none => fl)
  | [.slo b off len] => (match s.rowAt b with | some (cs, _) => bif Nat.ble (off + len) (lenL cs) then (bif fit8 (cutL off len cs) then (bif Nat.ble len 1000000 then k (.anyi .u32) s else fl) else fl) else fl | none => fl)
  | [.slu b 1 g n] => (match s.h.get b with | some (.junk true _) => bif Nat.ble n 900000 then k (.anyi .u32) s else fl | _ => fl)
  | _ => fl
def hookPU (f : Nat) : Option (List AV → St → (AV → St → β) → β) := bif Nat.beq f YF then none else bif Nat.beq f 202 then some (uintH fl) else none
def hookPY (T : Tab) (f : Nat) : Option (List AV → St → (AV → St → β) → β) :=
  bif Nat.beq f YF then some (yieldH T fl conj (callF T fl conj (hookPU fl) 400 40)) else bif Nat.beq f 202 then some (uintH fl) else none
/-- policy.Parse. -/
def parseH (args : List AV) (s : St) (k : AV → St → β) : β := loopFn tabF fl conj (callF tabF fl conj (hookPU fl) 400 40) (callF tabF fl conj (hookPY fl conj tabF) 400 50) 50 args s k
end
section
variable {β : Type} (J : β → Prop) {fl : β} (hfl : ¬ J fl) {conj : β → β → β} (hconj : ∀ a b, J (conj a b) → J a ∧ J b)
include hfl
theorem uint_ok : HookAt J Tryz.prog 202 (uintH fl) := by
  intro args s k E w args' h R F ha
  unfold uintH at h
  split at h
  · rename_i t
    cases hb : Nat.ble t.size 1000000 <;> rw [hb] at h <;> simp only [cond_true, cond_false] at h
    case false => exact absurd h hfl
    have hb' := Nat.le_of_ble_eq_true hb
    split at h
    · rename_i n hn
      cases ha with
      | cons h1 ha => cases ha with
        | cons h2 ha => cases ha with
          | cons h3 ha =>
            cases ha; cases h1; cases h2; cases h3
            refine (parse_uint t (by omega) w).mono fun e w' ⟨he, hw⟩ => ?_
            rw [hn] at he
            have hold : ∀ k, k < w.heap.size → w'.heap[k]? = w.heap[k]? := by
              rcases hw with rfl | rfl
              · exact fun _ _ => rfl
              · exact fun k hk => Lib.bytesWorld_at_old w 5 t k hk
            have hsz : w.heap.size ≤ w'.heap.size := by
              rcases hw with rfl | rfl
              · exact Nat.le_refl _
              · rw [Lib.bytesWorld_size]; omega
            have htape : w'.tape = w.tape := by rcases hw with rfl | rfl <;> rfl
            have hos : w'.os = w.os := by rcases hw with rfl | rfl <;> rfl
            have hout : w'.output = w.output := by rcases hw with rfl | rfl <;> rfl
            exact ⟨_, s, E, _, he, h, Step.more hold hsz htape hos hout, R.more hold, F, .tup (.cons (.int _ _) (.cons .nili .nil))⟩
    · exact absurd h hfl
  · exact absurd h hfl
omit hfl in
theorem sum_ok' {s : St} {k : AV → St → β} {E : Env} {w : World} {a : Option Addr} {xs : List Int} {cap : Nat} (h : J (k (.anyi .u32) s)) (R : Rel E s w) (F : Fresh E s) (hr : Rd w a xs) (hl : xs.length ≤ 9223372036854775807) (hb : ∀ x ∈ xs, 0 ≤ x ∧ x ≤ 255) :
    Calls Tryz.prog 348 #[.slice a xs.length cap] w fun e w' => ∃ v s' E' v', e = .returned v' ∧ J (k v s') ∧ Step E s w E' s' w' ∧ Rel E' s' w' ∧ Fresh E' s' ∧ Rl E' v v' := by
  refine (sum_any a xs cap w hr hl hb).mono fun e w' ⟨he, hw⟩ => ?_
  subst hw
  refine ⟨_, s, E, _, he, h, .refl E s w, R, F, .anyi ((wrap_iff .u32 _).2 ?_)⟩
  have e1 : IntKind.u32.min = 0 := by decide
  have e2 : IntKind.u32.max = 4294967295 := by decide
  have := (more 0#32 xs).isLt
  omega
omit hfl in
/-- Bytes in a row, as the sum reads them. -/
theorem rd_of {w : World} {g sh len : Nat} {row : Array Value} {ty : TypeId} (hw : w.heap[g]? = some (.cells row ty (0, 0))) (hv : ∀ j, j < len → ∃ v, row[sh + j]? = some v ∧ okC true v) :
    ∃ xs : List Int, xs.length = len ∧ Rd w (some ⟨g, sh, none⟩) xs ∧ ∀ x ∈ xs, 0 ≤ x ∧ x ≤ 255 := by
  let val : Nat → Int := fun j => match row[sh + j]? with | some (.int _ n) => n | _ => 0
  have key : ∀ j, j < len → ∃ n : Nat, row[sh + j]? = some (.int .u8 n) ∧ n < 256 ∧ val j = n := by
    intro j hj
    obtain ⟨v, h1, _, h2⟩ := hv j hj
    obtain ⟨n, rfl, hn⟩ := h2 rfl
    exact ⟨n, h1, hn, by simp [val, h1]⟩
  refine ⟨(List.range len).map val, by simp, .inr ⟨g, sh, rfl, fun i hi => ?_⟩, fun x hx => ?_⟩
  · have hi' : i < len := by simpa using hi
    obtain ⟨n, h1, h2, h3⟩ := key i hi'
    rw [cell_of_row w g (sh + i) row ty (0, 0) hw, h1]
    simp [List.getD_eq_getElem?_getD, hi', h3]
  · obtain ⟨j, hj, rfl⟩ := List.mem_map.1 hx
    obtain ⟨n, h1, h2, h3⟩ := key j (by simpa using hj)
    rw [h3]; omega
theorem sum_ok : HookAt J Tryz.prog 348 (sumH fl) := by
  intro args s k E w args' h R F ha
  have row : ∀ {b off len cap : Nat} {l : Loc} {cs : List AV} {sz : Nat}, s.rowAt b = some (cs, sz) → E b = some l →
      J (bif Nat.ble (off + len) (lenL cs) then (bif fit8 (cutL off len cs) then (bif Nat.ble len 1000000 then k (.anyi .u32) s else fl) else fl) else fl) →
      Calls Tryz.prog 348 #[.slice (some ⟨l.g, l.sh + off, none⟩) len cap] w fun e w' => ∃ v s' E' v', e = .returned v' ∧ J (k v s') ∧ Step E s w E' s' w' ∧ Rel E' s' w' ∧ Fresh E' s' ∧ Rl E' v v' := by
    intro b off len cap l cs sz hrow hE h
    cases h1 : Nat.ble (off + len) (lenL cs) <;> rw [h1] at h <;> simp only [cond_true, cond_false] at h
    case false => exact absurd h hfl
    cases h2 : fit8 (cutL off len cs) <;> rw [h2] at h <;> simp only [cond_true, cond_false] at h
    case false => exact absurd h hfl
    cases h3 : Nat.ble len 1000000 <;> rw [h3] at h <;> simp only [cond_true, cond_false] at h
    case false => exact absurd h hfl
    have h1' := Nat.le_of_ble_eq_true h1
    have h3' := Nat.le_of_ble_eq_true h3
    rw [lenL_eq] at h1'
    obtain ⟨l', hl', hok⟩ := R.at hE (rowAt_eq hrow)
    rw [hE] at hl'; cases hl'
    obtain ⟨k1, k2, row, rty, pre, vs, post, k3, k4, k5, k6, k7⟩ := hok
    have hly := k6.length
    have hfit := fit8_ok h2 (k6.cut off len)
    obtain ⟨xs, x1, x2, x3⟩ := rd_of (w := w) (g := l.g) (sh := l.sh + off) (len := len) k3 (fun j hj => by
      have hj2 : off + j < vs.length := by omega
      refine ⟨vs[off + j], ?_, hfit _ ?_⟩
      · rw [← Array.getElem?_toList, k4, List.append_assoc, List.getElem?_append_right (by omega), ← k5]
        have : pre.length + off + j - pre.length = off + j := by omega
        rw [this, List.getElem?_append_left hj2, List.getElem?_eq_getElem hj2]
      · have : ((vs.drop off).take len)[j]? = some vs[off + j] := by
          rw [List.getElem?_take_of_lt hj, List.getElem?_drop, List.getElem?_eq_getElem hj2]
        exact List.mem_of_getElem? this)
    have := sum_ok' J h R F (cap := cap) x2 (by omega) x3
    rw [x1] at this
    exact this
  unfold sumH at h
  split at h
  · split at h
    · rename_i b off len cap _ cs sz hrow
      cases ha with
      | cons h1 ha =>
        cases ha
        cases h1 with
        | sl _ _ _ hE hl => exact row hrow hE h
    · exact absurd h hfl
  · split at h
    · rename_i b off len _ cs sz hrow
      cases ha with
      | cons h1 ha =>
        cases ha
        cases h1 with
        | slo _ _ c hE hc hl => exact row hrow hE h
    · exact absurd h hfl
  · split at h
    · rename_i b g n _ z hget
      cases h3 : Nat.ble n 900000 <;> rw [h3] at h <;> simp only [cond_true, cond_false] at h
      case false => exact absurd h hfl
      have h3' := Nat.le_of_ble_eq_true h3
      cases ha with
      | cons h1 ha =>
        cases ha
        cases h1 with
        | slu hE hm hc hn hv =>
          rename_i len cap l
          obtain ⟨l', hl', row, rty, k1, k2, k3⟩ := R.at hE hget
          rw [hE] at hl'; cases hl'
          obtain ⟨xs, x1, x2, x3⟩ := rd_of (w := w) (g := l.g) (sh := l.sh) (len := len) k1 (fun j hj => k3 j (by omega))
          have hub := ub_max R.facts g n
          have hbm : baseMax = 50000 := rfl
          have h5 : ubMax g n ≤ n + baseMax := by unfold ubMax; cases g <;> simp
          have := sum_ok' J h R F (cap := cap) x2 (by omega) x3
          rw [x1] at this
          exact this
        | slue _ _ _ _ a =>
          have := sum_ok' J h R F (a := a) (xs := []) (cap := 0) (.inl rfl) (by simp) (by simp)
          exact this
    · exact absurd h hfl
  · exact absurd h hfl
include hconj
theorem hookPU_ok : HookOk J Tryz.prog (hookPU fl) := by
  refine ⟨fun f h hf hh => ?_, fun h hh => ?_⟩
  · unfold hookPU at hh
    cases hb : Nat.beq f YF <;> rw [hb] at hh <;> simp only [cond_true, cond_false] at hh
    · cases hc : Nat.beq f 202 <;> rw [hc] at hh <;> simp only [cond_true, cond_false] at hh
      · cases hh
      · cases hh
        rw [Nat.eq_of_beq_eq_true hc]
        exact uint_ok J hfl
    · cases hh
  · have : hookPU fl YF = (none : Option (List AV → St → (AV → St → β) → β)) := rfl
    rw [this] at hh; cases hh
theorem hookPY_ok : HookOk J Tryz.prog (hookPY fl conj tabF) := by
  refine ⟨fun f h hf hh => ?_, fun h hh => ?_⟩
  · unfold hookPY at hh
    cases hb : Nat.beq f YF <;> rw [hb] at hh <;> simp only [cond_true, cond_false] at hh
    · cases hc : Nat.beq f 202 <;> rw [hc] at hh <;> simp only [cond_true, cond_false] at hh
      · cases hh
      · cases hh
        rw [Nat.eq_of_beq_eq_true hc]
        exact uint_ok J hfl
    · exact absurd (Nat.eq_of_beq_eq_true hb) hf
  · have : hookPY fl conj tabF YF = some (yieldH tabF fl conj (callF tabF fl conj (hookPU fl) 400 40)) := rfl
    rw [this] at hh; cases hh
    exact yield_ok J tabF_ok tabF_sub tabF_flat tabF_x hfl hconj (callF_ok J tabF_ok tabF_sub tabF_flat tabF_x hfl hconj (hookPU_ok J hfl hconj) 400 40)
theorem parse_ok : HookAt J Tryz.prog 50 (parseH fl conj) :=
  loopFn_ok J tabF_ok tabF_sub tabF_flat tabF_x hfl hconj (callF_ok J tabF_ok tabF_sub tabF_flat tabF_x hfl hconj (hookPU_ok J hfl hconj) 400 40) (callF_ok J tabF_ok tabF_sub tabF_flat tabF_x hfl hconj (hookPY_ok J hfl hconj) 400 50) 50
end
/-! ### All of them -/
section
variable {β : Type} (fl : β) (conj : β → β → β)
/-- The functions that the machine takes by contracts. -/
def hookA (f : Nat) : Option (List AV → St → (AV → St → β) → β) :=
  bif Nat.beq f YF then none
  else bif Nat.beq f 76 then some (sortedH tabF fl [195, 345] 76)
  else bif Nat.beq f 209 then some (sortedH tabF fl [195, 345] 209)
  else bif Nat.beq f 120 then some (loopFn tabF fl conj (callF tabF fl conj (fun _ => none) 400 40) (callF tabF fl conj (hookYo tabF fl conj) 400 50) 120)
  else bif Nat.beq f 50 then some (parseH fl conj)
  else bif Nat.beq f 348 then some (sumH fl) else none
end
theorem hookA_ok {β : Type} (J : β → Prop) {fl : β} (hfl : ¬ J fl) {conj : β → β → β} (hconj : ∀ a b, J (conj a b) → J a ∧ J b) : HookOk J Tryz.prog (hookA fl conj) := by
  refine ⟨fun f h hf hh => ?_, fun h hh => ?_⟩
  · unfold hookA at hh
    cases hb : Nat.beq f YF <;> rw [hb] at hh <;> simp only [cond_true, cond_false] at hh
    case true => cases hh
    cases h1 : Nat.beq f 76 <;> rw [h1] at hh <;> simp only [cond_true, cond_false] at hh
    case true =>
      cases hh
      rw [Nat.eq_of_beq_eq_true h1]
      exact sorted_ok J tabF_ok tabF_sub tabF_flat tabF_x hfl _ (by decide)
    cases h2 : Nat.beq f 209 <;> rw [h2] at hh <;> simp only [cond_true, cond_false] at hh
    case true =>
      cases hh
      rw [Nat.eq_of_beq_eq_true h2]
      exact sorted_ok J tabF_ok tabF_sub tabF_flat tabF_x hfl _ (by decide)
    cases h3 : Nat.beq f 120 <;> rw [h3] at hh <;> simp only [cond_true, cond_false] at hh
    case true =>
      cases hh
      rw [Nat.eq_of_beq_eq_true h3]
      exact loopFn_ok J tabF_ok tabF_sub tabF_flat tabF_x hfl hconj (callF_ok J tabF_ok tabF_sub tabF_flat tabF_x hfl hconj (hook_none J _) 400 40) (callF_ok J tabF_ok tabF_sub tabF_flat tabF_x hfl hconj (hookYo_ok J tabF_ok tabF_sub tabF_flat tabF_x hfl hconj) 400 50) 120
    cases h4 : Nat.beq f 50 <;> rw [h4] at hh <;> simp only [cond_true, cond_false] at hh
    case true =>
      cases hh
      rw [Nat.eq_of_beq_eq_true h4]
      exact parse_ok J hfl hconj
    cases h5 : Nat.beq f 348 <;> rw [h5] at hh <;> simp only [cond_true, cond_false] at hh
    case true =>
      cases hh
      rw [Nat.eq_of_beq_eq_true h5]
      exact sum_ok J hfl
    cases hh
  · have : hookA fl conj YF = (none : Option (List AV → St → (AV → St → β) → β)) := rfl
    rw [this] at hh; cases hh
end
end Go.Proofs.YtkmocipdekogkaaGreatDoor
end
section
namespace Go.Proofs.YtkmocipdekogkaaGreatDoor
set_option linter.unusedVariables false
set_option linter.unusedSimpArgs false
set_option linter.unusedSectionVars false
noncomputable section

/-- The objects of the first stand in the second. -/
def subT : Tr AO → Tr AO → Bool
  | .e, _ => true
  | .n v l r, .n v' l' r' => bif (match v, v' with | none, _ => true | some o, some o' => sameO o' o | _, _ => false) then (bif subT l l' then subT r r' else false) else false
  | .n v l r, .e => bif (match v with | none => true | _ => false) then (bif subT l .e then subT r .e else false) else false
theorem subT_ok : ∀ {a b : Tr AO}, subT a b = true → ∀ i o, a.get i = some o → b.get i = some o
  | .e, _, _, i, o, h => by rw [Tr.get_e] at h; cases h
  | .n v l r, .n v' l' r', hs, i, o, h => by
    simp only [subT] at hs
    obtain ⟨h1, hs⟩ := bif_and hs
    obtain ⟨h2, h3⟩ := bif_and hs
    rw [Tr.get_n] at h ⊢
    by_cases hi : i = 0
    · rw [if_pos hi] at h ⊢
      subst h
      cases v' with
      | none => cases h1
      | some o' => rw [sameO_eq h1]
    · rw [if_neg hi] at h ⊢
      by_cases hj : i % 2 = 1
      · rw [if_pos hj] at h ⊢; exact subT_ok h2 _ _ h
      · rw [if_neg hj] at h ⊢; exact subT_ok h3 _ _ h
  | .n v l r, .e, hs, i, o, h => by
    simp only [subT] at hs
    obtain ⟨h1, hs⟩ := bif_and hs
    obtain ⟨h2, h3⟩ := bif_and hs
    rw [Tr.get_n] at h
    by_cases hi : i = 0
    · rw [if_pos hi] at h; subst h; cases h1
    · rw [if_neg hi] at h
      by_cases hj : i % 2 = 1
      · rw [if_pos hj] at h; have := subT_ok h2 _ _ h; rw [Tr.get_e] at this; cases this
      · rw [if_neg hj] at h; have := subT_ok h3 _ _ h; rw [Tr.get_e] at this; cases this
/-- The first state says no more than the second. -/
def subS (a b : St) : Bool := bif Nat.beq a.nx b.nx then subT a.h b.h else false
section
variable {E E0 : Env} {s S s0 : St} {w w0 : World}
theorem subS_rel (h : subS S s = true) (R : Rel E s w) (F : Fresh E s) : Rel E S w ∧ Fresh E S := by
  obtain ⟨h1, h2⟩ := bif_and h
  have hn := Nat.eq_of_beq_eq_true h1
  exact ⟨⟨fun b o l hb hE => R.obj b o l (subT_ok h2 b o hb) hE, fun b c o o' l l' hb hc => R.inj b c o o' l l' (subT_ok h2 b o hb) (subT_ok h2 c o' hc), R.facts⟩, fun c hc => F c (by omega)⟩
theorem subS_to (h : subS S s = true) (K : Step E0 s0 w0 E s w) : Step E0 s0 w0 E S w := by
  obtain ⟨h1, h2⟩ := bif_and h
  have hn := Nat.eq_of_beq_eq_true h1
  exact ⟨K.le, K.size, K.tape, K.os, K.output, K.frame, fun b o l hb hE => K.own b o l (subT_ok h2 b o hb) hE, by have := K.nx; omega, K.old⟩
theorem subS_of {E' : Env} {s' : St} {w' : World} (h : subS S s = true) (K : Step E S w E' s' w') : Step E s w E' s' w' := by
  obtain ⟨h1, h2⟩ := bif_and h
  have hn := Nat.eq_of_beq_eq_true h1
  refine ⟨K.le, K.size, K.tape, K.os, K.output, fun k hk hno => K.frame k hk fun b o l hb hE => hno b o l (subT_ok h2 b o hb) hE, fun b o l hb hE => ?_, by have := K.nx; omega, fun c hc => K.old c (by omega)⟩
  rcases K.own b o l hb hE with h | ⟨d, od, ld, hd, hEd, hg⟩
  · exact .inl h
  · exact .inr ⟨d, od, ld, subT_ok h2 d od hd, hEd, hg⟩
end
section
variable {β : Type} (J : β → Prop) {P : Program} {T : Tab} (hT : TOk P T) (hS : SubOk T) (hF : FlatOk P T) (hX : XOk P T) {fl : β} (hfl : ¬ J fl)
/-- A function, from a state that is written out to another. -/
def pieceH (fl : β) (A : List AV) (S : St) (V : AV) (S' : St) (args : List AV) (s : St) (k : AV → St → β) : β := bif beqVs args A then (bif subS S s then k V S' else fl) else fl
/-- The run behind it. -/
def pieceB (T : Tab) (hook : Nat → Option (List AV → St → (AV → St → Bool) → Bool)) (f : Nat) (A : List AV) (S : St) (V : AV) (S' : St) : Bool :=
  callF T false andB hook 10000 100 f A S (fun v s => bif beqV v V then subS S' s else false)
include hT hS hF hX hfl in
theorem piece_ok {hook : Nat → Option (List AV → St → (AV → St → Bool) → Bool)} (hH : HookOk (fun b : Bool => b = true) P hook) {f : Nat} (hne : f ≠ YF) {A : List AV} {S S' : St} {V : AV} (hrun : pieceB T hook f A S V S' = true) : HookAt J P f (pieceH fl A S V S') := by
  intro args s k E w args' h R F ha
  unfold pieceH at h
  cases h1 : beqVs args A <;> rw [h1] at h <;> simp only [cond_true, cond_false] at h
  case false => exact absurd h hfl
  cases h2 : subS S s <;> rw [h2] at h <;> simp only [cond_true, cond_false] at h
  case false => exact absurd h hfl
  have := beqVs_eq _ _ h1
  subst this
  obtain ⟨R1, F1⟩ := subS_rel h2 R F
  have hc := callF_ok (fun b : Bool => b = true) hT hS hF hX (fl := false) (conj := andB) (by simp) andB_ok hH 10000 100
  refine (hc.1 f args S _ E w args' hne hrun R1 F1 ha).mono fun e w' he => ?_
  obtain ⟨v, s', E', v', rfl, hj, K, R2, F2, hv⟩ := he
  obtain ⟨q1, q2⟩ := bif_and hj
  have := beqV_eq _ _ q1
  subst this
  obtain ⟨R3, F3⟩ := subS_rel q2 R2 F2
  exact ⟨v, S', E', v', rfl, h, subS_of h2 (subS_to q2 K), R3, F3, hv⟩
end
/-! ### States under other names -/
mutual
def renV (f : Nat → Nat) : AV → AV
  | .ptr b o => .ptr (f b) o
  | .sl b o l c => .sl (f b) o l c
  | .slo b o l => .slo (f b) o l
  | .mp b => .mp (f b)
  | .fn g a c => .fn g (renVs f a) (renVs f c)
  | .ifc t v => .ifc t (renV f v)
  | .agg l => .agg (renVs f l)
  | .tup l => .tup (renVs f l)
  | .slu _ _ _ _ => .bad
  | .yld _ => .bad
  | .bad => .bad
  | .any => .any
  | .bool b => .bool b
  | .int k n => .int k n
  | .str s => .str s
  | .nilp => .nilp
  | .nils => .nils
  | .slz => .slz
  | .nilm => .nilm
  | .nilf => .nilf
  | .nili => .nili
  | .sym c b => .sym c b
  | .anyi k => .anyi k
  | .anyb => .anyb
  | .upto g n => .upto g n
  | .sl0 => .sl0
def renVs (f : Nat → Nat) : List AV → List AV
  | [] => []
  | a :: r => renV f a :: renVs f r
end
mutual
/-- No slices of which little is known, no rounds. -/
def knownV : AV → Bool
  | .slu _ _ _ _ => false
  | .yld _ => false
  | .fn _ a c => bif knownVs a then knownVs c else false
  | .ifc _ v => knownV v
  | .agg l => knownVs l
  | .tup l => knownVs l
  | _ => true
def knownVs : List AV → Bool
  | [] => true
  | a :: r => bif knownV a then knownVs r else false
end
def Env.pull (E : Env) (n : Nat) (f : Nat → Nat) : Env := { at' := fun b => if b < n then E (f b) else none, val := E.val, base := E.base }
theorem pull_at {E : Env} {n b : Nat} {f : Nat → Nat} (h : b < n) : (E.pull n f) b = E (f b) := by
  show (if b < n then E (f b) else none) = _
  rw [if_pos h]
mutual
theorem Rl.pull {E : Env} {n : Nat} {f : Nat → Nat} : ∀ {a : AV} {v : Value}, Rl E (renV f a) v → lowV n a = true → knownV a = true → Rl (E.pull n f) a v
  | .bool b, _, h, _, _ => by simp only [renV] at h; cases h; exact .bool b
  | .int k m, _, h, _, _ => by simp only [renV] at h; cases h; exact .int k m
  | .str s, _, h, _, _ => by simp only [renV] at h; cases h; exact .str s
  | .nilp, _, h, _, _ => by simp only [renV] at h; cases h; exact .nilp
  | .ptr b o, _, h, l, _ => by
    simp only [renV] at h
    cases h with
    | ptr _ hE => exact .ptr o ((pull_at (Nat.le_of_ble_eq_true l)).trans hE)
  | .nils, _, h, _, _ => by simp only [renV] at h; cases h; exact .nils
  | .sl b o m c, _, h, l, _ => by
    simp only [renV] at h
    cases h with
    | sl _ _ _ hE hl => exact .sl o m c ((pull_at (Nat.le_of_ble_eq_true l)).trans hE) hl
  | .slo b o m, _, h, l, _ => by
    simp only [renV] at h
    cases h with
    | slo _ _ c hE hc hl => exact .slo o m c ((pull_at (Nat.le_of_ble_eq_true l)).trans hE) hc hl
  | .slz, _, h, _, _ => by simp only [renV] at h; cases h; exact .slz _ _
  | .nilm, _, h, _, _ => by simp only [renV] at h; cases h; exact .nilm
  | .mp b, _, h, l, _ => by
    simp only [renV] at h
    cases h with
    | mp hE => exact .mp ((pull_at (Nat.le_of_ble_eq_true l)).trans hE)
  | .fn g a c, _, h, l, q => by
    simp only [renV] at h
    simp only [lowV] at l
    simp only [knownV] at q
    obtain ⟨l1, l2⟩ := bif_and l
    obtain ⟨q1, q2⟩ := bif_and q
    cases h with
    | fn _ h1 h2 => exact .fn g (Rls.pull h1 l1 q1) (Rls.pull h2 l2 q2)
  | .nilf, _, h, _, _ => by simp only [renV] at h; cases h; exact .nilf
  | .ifc t v, _, h, l, q => by
    simp only [renV] at h
    cases h with
    | ifc _ hv => exact .ifc t (Rl.pull hv (by simpa [lowV] using l) (by simpa [knownV] using q))
  | .nili, _, h, _, _ => by simp only [renV] at h; cases h; exact .nili
  | .agg m, _, h, l, q => by
    simp only [renV] at h
    cases h with
    | agg hc => exact .agg (Rls.pull hc (by simpa [lowV] using l) (by simpa [knownV] using q))
  | .tup m, _, h, l, q => by
    simp only [renV] at h
    cases h with
    | tup hc => exact .tup (Rls.pull hc (by simpa [lowV] using l) (by simpa [knownV] using q))
  | .any, _, h, _, _ => by
    simp only [renV] at h
    cases h with
    | any h => exact .any h
  | .bad, _, h, _, _ => .bad _
  | .sym c b, _, h, _, _ => by
    simp only [renV] at h
    cases h with
    | sym h hc ho => exact .sym h hc ho
  | .anyi k, _, h, _, _ => by
    simp only [renV] at h
    cases h with
    | anyi h => exact .anyi h
  | .anyb, _, h, _, _ => by simp only [renV] at h; cases h; exact .anyb _
  | .upto g m, _, h, _, _ => by
    simp only [renV] at h
    cases h with
    | upto h hn => exact .upto h hn
  | .slu _ _ _ _, _, _, _, q => by simp [knownV] at q
  | .sl0, _, h, _, _ => by simp only [renV] at h; cases h; exact .sl0 _
  | .yld _, _, _, _, q => by simp [knownV] at q
theorem Rls.pull {E : Env} {n : Nat} {f : Nat → Nat} : ∀ {a : List AV} {v : List Value}, Rls E (renVs f a) v → lowVs n a = true → knownVs a = true → Rls (E.pull n f) a v
  | [], _, h, _, _ => by simp only [renVs] at h; cases h; exact .nil
  | a :: r, _, h, l, q => by
    simp only [renVs] at h
    simp only [lowVs] at l
    simp only [knownVs] at q
    obtain ⟨l1, l2⟩ := bif_and l
    obtain ⟨q1, q2⟩ := bif_and q
    cases h with
    | cons h1 h2 => exact .cons (Rl.pull h1 l1 q1) (Rls.pull h2 l2 q2)
end
def renE (f : Nat → Nat) : List (AV × AV × Nat) → List (AV × AV × Nat)
  | [] => []
  | (a, b, n) :: r => (renV f a, renV f b, n) :: renE f r
def knownE : List (AV × AV × Nat) → Bool
  | [] => true
  | (a, b, _) :: r => bif knownV a then (bif knownV b then knownE r else false) else false
def renO (f : Nat → Nat) : AO → AO
  | .row cs sz => .row (renVs f cs) sz
  | .map es c => .map (renE f es) c
  | o => o
def knownO : AO → Bool
  | .row cs _ => knownVs cs
  | .map es _ => knownE es
  | .junk _ _ => true
  | _ => false
theorem Ents.pull {E : Env} {n : Nat} {f : Nat → Nat} : ∀ {es : List (AV × AV × Nat)} {es' : List MapEntry}, Ents E (renE f es) es' → lowE n es = true → knownE es = true → Ents (E.pull n f) es es'
  | [], _, h, _, _ => by simp only [renE] at h; cases h; exact .nil
  | (a, b, m) :: r, _, h, l, q => by
    simp only [renE] at h
    simp only [lowE] at l
    simp only [knownE] at q
    obtain ⟨l1, l⟩ := bif_and l
    obtain ⟨l2, l3⟩ := bif_and l
    obtain ⟨q1, q⟩ := bif_and q
    obtain ⟨q2, q3⟩ := bif_and q
    cases h with
    | cons h1 h2 => exact .cons ⟨Rl.pull h1.1 l1 q1, Rl.pull h1.2.1 l2 q2, h1.2.2⟩ (Ents.pull h2 l3 q3)
theorem ROk.pull {E : Env} {n : Nat} {f : Nat → Nat} {l : Loc} {w : World} {o : AO} (h : ROk E l w (renO f o)) (lo : lowO n o = true) (ko : knownO o = true) : ROk (E.pull n f) l w o := by
  cases o with
  | row cs sz => obtain ⟨h1, h2, row, ty, pre, vs, post, h3, h4, h5, h6, h7⟩ := h; exact ⟨h1, by
      rw [allOne_eq] at h2 ⊢
      intro a ha
      have : renV f a ∈ renVs f cs := by
        clear h6 h7 h2 lo ko
        induction cs with
        | nil => cases ha
        | cons b r ih =>
          simp only [renVs]
          rcases List.mem_cons.1 ha with rfl | ha
          · simp
          · exact List.mem_cons_of_mem _ (ih ha)
      have := h2 _ this
      cases a <;> first | rfl | (simp [renV, AV.one] at this), row, ty, pre, vs, post, h3, h4, h5, h6.pull lo ko, h7⟩
  | map es clock => obtain ⟨es', h1, h2⟩ := h; exact ⟨es', h1, h2.pull lo ko⟩
  | junk u sz => exact h
  | iter _ _ _ _ => cases lo
  | sit _ _ => cases lo
  | loop _ _ _ _ _ => cases lo
  | enc _ _ => cases lo
/-- The objects of the first stand in the second, under the names that f gives them. -/
def isoL (n : Nat) (f : Nat → Nat) (S s : Tr AO) : List Nat → Bool
  | [] => true
  | b :: r => match S.get b, s.get (f b) with
    | some o, some o' => bif sameO o' (renO f o) then (bif lowO n o then (bif knownO o then isoL n f S s r else false) else false) else false
    | _, _ => false
def nodupB : List Nat → Bool
  | [] => true
  | a :: r => bif memB a r then false else nodupB r
def idsT : Tr AO → (Nat → Nat) → List Nat → List Nat := fun t => Tr.rec (fun _ l => l) (fun v _ _ il ir p l => match v with
  | none => il (fun j => p (Nat.add (Nat.mul 2 j) 1)) (ir (fun j => p (Nat.add (Nat.mul 2 j) 2)) l)
  | some _ => p 0 :: il (fun j => p (Nat.add (Nat.mul 2 j) 1)) (ir (fun j => p (Nat.add (Nat.mul 2 j) 2)) l)) t
def mapN (f : Nat → Nat) : List Nat → List Nat | [] => [] | a :: r => f a :: mapN f r
theorem isoL_ok {n : Nat} {f : Nat → Nat} {S s : Tr AO} : ∀ {l : List Nat}, isoL n f S s l = true → ∀ b ∈ l, ∃ o, S.get b = some o ∧ s.get (f b) = some (renO f o) ∧ lowO n o = true ∧ knownO o = true
  | [], _, b, hb => by cases hb
  | c :: r, h, b, hb => by
    unfold isoL at h
    split at h
    · rename_i o o' h1 h2
      obtain ⟨k1, h⟩ := bif_and h
      obtain ⟨k2, h⟩ := bif_and h
      obtain ⟨k3, k4⟩ := bif_and h
      rcases List.mem_cons.1 hb with rfl | hb
      · exact ⟨o, h1, by rw [h2, sameO_eq k1], k2, k3⟩
      · exact isoL_ok k4 b hb
    · cases h
theorem nodup_map {f : Nat → Nat} : ∀ {l : List Nat}, nodupB (mapN f l) = true → ∀ b ∈ l, ∀ c ∈ l, f b = f c → b = c
  | [], _, b, hb, _, _, _ => by cases hb
  | a :: r, h, b, hb, c, hc, he => by
    simp only [mapN, nodupB] at h
    cases hm : memB (f a) (mapN f r) <;> rw [hm] at h <;> simp only [cond_true, cond_false] at h
    case true => cases h
    have hno : ∀ d ∈ r, f d ≠ f a := by
      intro d hd e
      have : f a ∈ mapN f r := by
        rw [← e]
        clear hm h hb hc he
        induction r with
        | nil => cases hd
        | cons x q ih =>
          simp only [mapN]
          rcases List.mem_cons.1 hd with rfl | hd
          · simp
          · exact List.mem_cons_of_mem _ (ih hd)
      rw [(memB_iff _ _).2 this] at hm; cases hm
    rcases List.mem_cons.1 hb with hb1 | hb1
    · rcases List.mem_cons.1 hc with hc1 | hc1
      · rw [hb1, hc1]
      · rw [hb1] at he; exact absurd he.symm (hno c hc1)
    · rcases List.mem_cons.1 hc with hc1 | hc1
      · rw [hc1] at he; exact absurd he (hno b hb1)
      · exact nodup_map h b hb1 c hc1 he
/-- The second state is the first, under other names: the ids are those that stand in the first. -/
def isoS (f : Nat → Nat) (ids : List Nat) (V : AV) (S : St) (v : AV) (s : St) : Bool :=
  bif beqV v (renV f V) then (bif lowV S.nx V then (bif knownV V then (bif isoL S.nx f S.h s.h ids then nodupB (mapN f ids) else false) else false) else false) else false
/-- A state of these objects alone. -/
def mkS (n : Nat) (l : List (Nat × AO)) : St := { h := List.rec .e (fun p _ ih => ih.set p.1 p.2) l, nx := n }
theorem mkS_get (n : Nat) : ∀ (l : List (Nat × AO)) (b : Nat) (o : AO), (mkS n l).h.get b = some o → b ∈ l.map (·.1)
  | [], b, o, h => by
    have : (mkS n []).h = .e := rfl
    rw [this, Tr.get_e] at h; cases h
  | (c, oc) :: r, b, o, h => by
    have : (mkS n ((c, oc) :: r)).h = (mkS n r).h.set c oc := rfl
    rw [this, Tr.get_set] at h
    by_cases hb : b = c
    · subst hb; simp
    · rw [if_neg hb] at h
      have := mkS_get n r b o h
      simp only [List.map_cons, List.mem_cons]; exact .inr this
theorem iso_rel {E E0 : Env} {s0 s : St} {w0 w : World} {f : Nat → Nat} {n : Nat} {l : List (Nat × AO)} {V v : AV} (h : isoS f (l.map (·.1)) V (mkS n l) v s = true) (h0 : ∀ b, E0 b = none) (h9 : ∀ b, E0.val 9 b = none) (hn0 : s0.nx = 0) (K : Step E0 s0 w0 E s w) (R : Rel E s w) {v' : Value} (hv : Rl E v v') :
    Step E0 s0 w0 (E.pull n f) (mkS n l) w ∧ Rel (E.pull n f) (mkS n l) w ∧ Fresh (E.pull n f) (mkS n l) ∧ Rl (E.pull n f) V v' := by
  obtain ⟨h1, h⟩ := bif_and h
  obtain ⟨h2, h⟩ := bif_and h
  obtain ⟨h3, h⟩ := bif_and h
  obtain ⟨h4, h5⟩ := bif_and h
  have := beqV_eq _ _ h1
  subst this
  have hle : Env.le E0 (E.pull n f) := ⟨(fun b l hb => by rw [h0] at hb; cases hb), K.le.2.1, K.le.2.2⟩
  have key : ∀ b o lb, (mkS n l).h.get b = some o → (E.pull n f) b = some lb → b < n ∧ b ∈ l.map (·.1) ∧ E (f b) = some lb ∧ s.h.get (f b) = some (renO f o) ∧ lowO n o = true ∧ knownO o = true := by
    intro b o lb hb hE
    have hm := mkS_get n l b o hb
    have hlt : b < n := by
      rcases Nat.lt_or_ge b n with h | h
      · exact h
      · have : (E.pull n f) b = none := by
          show (if b < n then E (f b) else none) = none
          rw [if_neg (by omega)]
        rw [this] at hE; cases hE
    obtain ⟨o', k1, k2, k3, k4⟩ := isoL_ok h4 b hm
    rw [hb] at k1; cases k1
    exact ⟨hlt, hm, by rw [← pull_at hlt]; exact hE, k2, k3, k4⟩
  refine ⟨⟨hle, K.size, K.tape, K.os, K.output, K.frame, fun b o lb hb hE => ?_, by show s0.nx ≤ n; omega, fun c hc => by omega⟩, ⟨fun b o lb hb hE => ?_, fun b c o o' lb lc hb hc hEb hEc hg => ?_, ⟨R.facts.cls, R.facts.ord, R.facts.ne, R.facts.base, fun b v hb => by rw [show (E.pull n f).val 9 b = E0.val 9 b by rw [← K.le.2.1]; rfl, h9] at hb; cases hb⟩⟩, fun c hc => ?_, hv.pull h2 h3⟩
  · obtain ⟨_, _, k1, k2, _⟩ := key b o lb hb hE
    exact K.own _ _ _ k2 k1
  · obtain ⟨_, _, k1, k2, k3, k4⟩ := key b o lb hb hE
    exact (R.obj _ _ _ k2 k1).pull k3 k4
  · obtain ⟨_, m1, k1, k2, _⟩ := key b o lb hb hEb
    obtain ⟨_, m2, j1, j2, _⟩ := key c o' lc hc hEc
    exact nodup_map h5 b m1 c m2 (R.inj _ _ _ _ _ _ k2 j2 k1 j1 hg)
  · show (if c < n then E (f c) else none) = none
    rw [if_neg (by have : n ≤ c := hc; omega)]
end
end Go.Proofs.YtkmocipdekogkaaGreatDoor
end
section
namespace Go.Proofs.YtkmocipdekogkaaGreatDoor
set_option linter.unusedVariables false
set_option linter.unusedSimpArgs false
set_option linter.unusedSectionVars false
section

noncomputable def seqL : Code → Code | .seq a _ => a | c => c
noncomputable def seqR : Code → Code | .seq _ b => b | c => c
noncomputable def c14 : Code := match Tryz.f14.body with | some c => c | none => .skip
noncomputable def cx : Code := seqL c14
noncomputable def cr1 : Code := seqL (seqR c14)
noncomputable def cr2 : Code := seqL (seqR (seqR c14))
noncomputable def cBody : Code := match seqR (seqR (seqR c14)) with | .block _ (.loop b) => b | c => c
theorem c14_eq : Tryz.f14.body = some (.seq cx (.seq cr1 (.seq cr2 (.block 0 (.loop cBody))))) := by kernel_rfl
theorem c14_res : Tryz.f14.results = #[] := by kernel_rfl
theorem f14_tab : tabF.func 14 = some Tryz.f14 := by kernel_rfl
noncomputable def mk14 : Nat := tabF.mask 14
noncomputable def pl14 : Plans := tabF.plan 14
noncomputable def call14 : CallF Bool := callF tabF false andB (hookA false andB) 10000 90
noncomputable def tmS (l : List (Nat × AV)) : Tm := { loc := [], far := setsT l }
noncomputable def tmSub (mk : Nat) (t : Tm) : List (Nat × AV) → Bool
  | [] => true
  | (i, v) :: r => match t.get mk i with | some u => bif beqV u v then tmSub mk t r else false | none => false
noncomputable def okTS (l : List (Nat × AV)) (S : St) (t : Tm) (s : St) : Bool := bif tmSub mk14 t l then subS S s else false
noncomputable def onNormal (k : Tm → St → Bool) (e : Ex) (t : Tm) (s : St) : Bool := match e with | .normal => k t s | _ => false
noncomputable def onExit0 (k : Tm → St → Bool) (e : Ex) (t : Tm) (s : St) : Bool := match e with | .exit i => bif Nat.beq i 0 then k t s else false | _ => false
noncomputable def preB (A : List AV) (S0 : St) (l : List (Nat × AV)) (S : St) : Bool :=
  codeF tabF false andB call14 mk14 pl14 100 cx { loc := [], far := toTr A 0 .e } S0 (onNormal fun t s =>
  codeF tabF false andB call14 mk14 pl14 100 cr1 t s (onNormal fun t s =>
  codeF tabF false andB call14 mk14 pl14 100 cr2 t s (onNormal fun t s => okTS l S t s)))
noncomputable def iterK (k : Tm → St → Bool) (m : Nat) : Tm → St → Bool := Nat.rec (fun t s => k t s) (fun _ ih t s => codeF tabF false andB call14 mk14 pl14 10000 cBody t s (onNormal ih)) m
noncomputable def iterB (m : Nat) (l : List (Nat × AV)) (S : St) (l' : List (Nat × AV)) (S' : St) : Bool := iterK (okTS l' S') m (tmS l) S
noncomputable def lastB (l : List (Nat × AV)) (S S' : St) : Bool := codeF tabF false andB call14 mk14 pl14 10000 (.loop cBody) (tmS l) S (onExit0 fun t s => subS S' s)
theorem tmS_rel {E : Env} {nt : Nat} {t : Tm} {a : Act} (hr : TRel E mk14 nt t a) {l : List (Nat × AV)} (h : tmSub mk14 t l = true) : TRel E mk14 nt (tmS l) a := by
  refine ⟨hr.size, hr.defers, fun i v hv => ?_⟩
  have hv' : (setsT l).get i = some v := by
    rw [tm_get] at hv
    split at hv
    · exact hv
    · cases hv
  have hin := get_setsT l i v hv'
  clear hv hv'
  induction l with
  | nil => cases hin
  | cons p r ih =>
    obtain ⟨j, u⟩ := p
    unfold tmSub at h
    split at h
    · rename_i u' hu
      obtain ⟨h1, h2⟩ := bif_and h
      rcases List.mem_cons.1 hin with heq | hin
      · cases heq
        have := beqV_eq _ _ h1
        subst this
        exact hr.val i _ hu
      · exact ih h2 hin
    · cases h
abbrev JB : Bool → Prop := fun b => b = true
theorem hookA_b : HookOk JB Tryz.prog (hookA false andB) := hookA_ok JB (by simp) andB_ok
theorem call14_ok : CallOk JB Tryz.prog call14 := callF_ok JB tabF_ok tabF_sub tabF_flat tabF_x (by simp) andB_ok hookA_b 10000 90
theorem code14 (n : Nat) :
    (∀ (c : Code) (t : Tm) (s : St) (k : Ex → Tm → St → Bool) (E : Env) (w : World) (a : Act), JB (codeF tabF false andB call14 mk14 pl14 n c t s k) → codeOk pl14 Tryz.f14.ntmps c = true → Rel E s w → Fresh E s → TRel E mk14 Tryz.f14.ntmps t a → c.wp Tryz.prog (QK JB mk14 Tryz.f14.ntmps k E s w) a w) ∧
    (∀ (c : Code) (t : Tm) (s : St) (k : Ex → Tm → St → Bool) (E : Env) (w : World) (a : Act), JB (codeF tabF false andB call14 mk14 pl14 n (.loop c) t s k) → codeOk pl14 Tryz.f14.ntmps c = true → Rel E s w → Fresh E s → TRel E mk14 Tryz.f14.ntmps t a → Code.rounds Tryz.prog c (QK JB mk14 Tryz.f14.ntmps k E s w) n a w) :=
  codeF_ok tabF_ok tabF_sub tabF_flat tabF_x (fl := false) (conj := andB) (J := JB) (by simp) andB_ok call14_ok n
/-- The loop, from a state on, comes to an end in another. -/
noncomputable def QL (E0 : Env) (s0 : St) (w0 : World) (Sf : St) : Exit → Act → World → Prop := fun ex a' w' => ex = .exit 0 ∧ a'.defers = [] ∧ ∃ E', Step E0 s0 w0 E' Sf w' ∧ Rel E' Sf w' ∧ Fresh E' Sf
noncomputable def LoopTo (n : Nat) (l : List (Nat × AV)) (S Sf : St) : Prop := ∀ (E0 : Env) (s0 : St) (w0 : World) (E : Env) (w : World) (a : Act), Step E0 s0 w0 E S w → Rel E S w → Fresh E S → TRel E mk14 Tryz.f14.ntmps (tmS l) a → Code.rounds Tryz.prog cBody (QL E0 s0 w0 Sf) n a w
theorem ok_all : codeOk pl14 Tryz.f14.ntmps (.seq cx (.seq cr1 (.seq cr2 (.block 0 (.loop cBody))))) = true := (tabF_ok.func 14 Tryz.f14 f14_tab).2.2 _ c14_eq
theorem ok_x : codeOk pl14 Tryz.f14.ntmps cx = true := by have h := ok_all; simp only [codeOk] at h; exact (bif_and h).1
theorem ok_r1 : codeOk pl14 Tryz.f14.ntmps cr1 = true := by have h := ok_all; simp only [codeOk] at h; exact (bif_and (bif_and h).2).1
theorem ok_r2 : codeOk pl14 Tryz.f14.ntmps cr2 = true := by have h := ok_all; simp only [codeOk] at h; exact (bif_and (bif_and (bif_and h).2).2).1
theorem ok_b : codeOk pl14 Tryz.f14.ntmps cBody = true := by have h := ok_all; simp only [codeOk] at h; exact (bif_and (bif_and (bif_and h).2).2).2
theorem last_ok {l : List (Nat × AV)} {S Sf : St} (h : lastB l S Sf = true) : LoopTo 10000 l S Sf := by
  intro E0 s0 w0 E w a K R F hr
  refine rounds_mono ?_ _ ((code14 10000).2 cBody (tmS l) S _ E w a h ok_b R F hr)
  rintro ex a' w' ⟨e, t', s', E', he, hj, hs, hrel, hf, hr'⟩
  cases e with
  | normal => cases hj
  | ret => cases hj
  | exit i =>
    cases ex <;> first | exact he.elim | skip
    replace he : _ = _ := he
    subst he
    obtain ⟨h1, h2⟩ := bif_and (show (bif Nat.beq i 0 then subS Sf s' else false) = true from hj)
    have := Nat.eq_of_beq_eq_true h1
    subst this
    obtain ⟨R2, F2⟩ := subS_rel h2 hrel hf
    exact ⟨rfl, hr'.defers, E', K.trans (subS_to h2 hs), R2, F2⟩
theorem iterK_ok {k : Tm → St → Bool} {n : Nat} {E0 : Env} {s0 : St} {w0 : World} {Sf : St}
    (hk : ∀ t s E w a, k t s = true → Step E0 s0 w0 E s w → Rel E s w → Fresh E s → TRel E mk14 Tryz.f14.ntmps t a → Code.rounds Tryz.prog cBody (QL E0 s0 w0 Sf) n a w) :
    ∀ (m : Nat) (t : Tm) (s : St) (E : Env) (w : World) (a : Act), iterK k m t s = true → Step E0 s0 w0 E s w → Rel E s w → Fresh E s → TRel E mk14 Tryz.f14.ntmps t a → Code.rounds Tryz.prog cBody (QL E0 s0 w0 Sf) (n + m) a w
  | 0, t, s, E, w, a, h, K, R, F, hr => hk t s E w a h K R F hr
  | m + 1, t, s, E, w, a, h, K, R, F, hr => by
    have h' : codeF tabF false andB call14 mk14 pl14 10000 cBody t s (onNormal (iterK k m)) = true := h
    show Code.rounds Tryz.prog cBody _ ((n + m) + 1) a w
    rw [rounds_succ]
    refine wp_mono ((code14 10000).1 cBody t s _ E w a h' ok_b R F hr) ?_
    rintro ex a' w' ⟨e, t', s', E', he, hj, hs, hrel, hf, hr'⟩
    cases e with
    | exit i => cases hj
    | ret => cases hj
    | normal =>
      cases ex <;> first | exact he.elim | skip
      exact iterK_ok hk m t' s' E' w' a' hj (K.trans hs) hrel hf hr'
theorem iter_ok {n m : Nat} {l l' : List (Nat × AV)} {S S' Sf : St} (h : iterB m l S l' S' = true) (hl : LoopTo n l' S' Sf) : LoopTo (n + m) l S Sf := by
  intro E0 s0 w0 E w a K R F hr
  refine iterK_ok ?_ m (tmS l) S E w a h K R F hr
  intro t s E w a hok K R F hr
  obtain ⟨h1, h2⟩ := bif_and hok
  obtain ⟨R2, F2⟩ := subS_rel h2 R F
  exact hl E0 s0 w0 E w a (subS_to h2 K) R2 F2 (tmS_rel hr h1)
/-- From a state that is written out to another. -/
def PieceC (P : Program) (f : Nat) (A : List AV) (S : St) (V : AV) (S' : St) : Prop := ∀ (E : Env) (w : World) (args' : List Value), Rel E S w → Fresh E S → Rls E A args' →
  Calls P f args'.toArray w fun e w' => ∃ E' v', e = .returned v' ∧ Step E S w E' S' w' ∧ Rel E' S' w' ∧ Fresh E' S' ∧ Rl E' V v'
theorem calm_c {args : List AV} {S0 S Sf : St} {l : List (Nat × AV)} {n : Nat} (hp : preB args S0 l S = true) (hl : LoopTo n l S Sf) : PieceC Tryz.prog 14 args S0 (.tup []) Sf := by
  intro E w args' R1 F1 ha
  obtain ⟨hf1, hf2, hf3⟩ := tabF_ok.func 14 Tryz.f14 f14_tab
  refine calls_of_wp hf1 c14_eq ?_
  have TR : TRel E mk14 Tryz.f14.ntmps { loc := [], far := toTr args 0 .e } { tmps := args'.toArray ++ Array.replicate (Tryz.f14.ntmps - args'.toArray.size) undef, defers := [] } := by
    refine ⟨by simp only [Array.size_append, Array.size_replicate, List.size_toArray]; omega, rfl, fun i v hv => ?_⟩
    rw [tm_get] at hv
    split at hv
    · obtain ⟨u, h1, h2⟩ := toTr_get args args' 0 .e [] ha rfl (fun j v hv => by rw [Tr.get_e] at hv; cases hv) i v hv
      have hi : i < args'.length := by
        rcases Nat.lt_or_ge i args'.length with h | h
        · exact h
        · rw [List.nil_append, List.getElem?_eq_none h] at h1; cases h1
      rw [Array.getD_eq_getD_getElem?, Array.getElem?_append_left (by simpa using hi)]
      simp only [List.nil_append] at h1
      simpa [h1] using h2
    · cases hv
  have nrm : ∀ {c : Code} {t : Tm} {s : St} {k : Tm → St → Bool} {E : Env} {w : World} {a : Act} {Q : Exit → Act → World → Prop}, codeF tabF false andB call14 mk14 pl14 100 c t s (onNormal k) = true → codeOk pl14 Tryz.f14.ntmps c = true → Rel E s w → Fresh E s → TRel E mk14 Tryz.f14.ntmps t a →
      (∀ t' s' E' a' w', k t' s' = true → Step E s w E' s' w' → Rel E' s' w' → Fresh E' s' → TRel E' mk14 Tryz.f14.ntmps t' a' → Q .normal a' w') → c.wp Tryz.prog Q a w := by
    intro c t s k E w a Q hj hok R F hr hn
    refine wp_mono ((code14 100).1 c t s _ E w a hj hok R F hr) ?_
    rintro ex a' w' ⟨e, t', s', E', he, hj, hs, hrel, hf, hr'⟩
    cases e with
    | exit i => cases hj
    | ret => cases hj
    | normal =>
      cases ex <;> first | exact he.elim | skip
      exact hn t' s' E' a' w' hj hs hrel hf hr'
  refine wp_seq (nrm hp ok_x R1 F1 TR ?_)
  intro t1 s1 E1 a1 w1 hj1 K1 R1 F1 T1
  refine wp_seq (nrm hj1 ok_r1 R1 F1 T1 ?_)
  intro t2 s2 E2 a2 w2 hj2 K2 R2 F2 T2
  refine wp_seq (nrm hj2 ok_r2 R2 F2 T2 ?_)
  intro t3 s3 E3 a3 w3 hj3 K3 R3 F3 T3
  obtain ⟨q1, q2⟩ := bif_and hj3
  obtain ⟨R4, F4⟩ := subS_rel q2 R3 F3
  refine wp_block (wp_loop_rounds n (rounds_mono ?_ n (hl E S0 w E3 w3 a3 (subS_to q2 ((K1.trans K2).trans K3)) R4 F4 (tmS_rel T3 q1))))
  rintro ex a' w' ⟨rfl, hd, E', K, R', F'⟩
  simp only [Exit.inBlock, if_true]
  show bodyPost _ _ _ Exit.normal a' w'
  refine ⟨hd, .tuple #[], ?_, ?_⟩
  · unfold results
    rw [c14_res]
    simp
  · exact ⟨E', .tuple #[], rfl, K, R', F', .tup .nil⟩
/-! ### A fleet that is opened -/
noncomputable def orB (a b : Bool) : Bool := bif a then true else b
noncomputable def assocN : List (Nat × Nat) → Nat → Nat
  | [], b => b
  | (x, y) :: r, b => bif Nat.beq x b then y else assocN r b
noncomputable def openB (A : List AV) (V : AV) (n : Nat) (l : List (Nat × AO)) (π0 π : List (Nat × Nat)) : Bool :=
  callF tabF false andB (hookA false andB) 10000 100 18 A { h := .e, nx := 0 } (fun v s => orB (isoS (assocN π0) (l.map (·.1)) V (mkS n l) v s) (isoS (assocN π) (l.map (·.1)) V (mkS n l) v s))
noncomputable def openH {β : Type} (fl : β) (A : List AV) (V : AV) (S : St) (args : List AV) (s : St) (k : AV → St → β) : β := bif beqVs args A then (bif Nat.beq s.nx 0 then k V S else fl) else fl
theorem open_ok {β : Type} (J : β → Prop) {fl : β} (hfl : ¬ J fl) {A : List AV} {V : AV} {n : Nat} {l : List (Nat × AO)} {π0 π : List (Nat × Nat)} (hrun : openB A V n l π0 π = true) : HookAt J Tryz.prog 18 (openH fl A V (mkS n l)) := by
  intro args s k E w args' h R F ha
  unfold openH at h
  cases h1 : beqVs args A <;> rw [h1] at h <;> simp only [cond_true, cond_false] at h
  case false => exact absurd h hfl
  cases h2 : Nat.beq s.nx 0 <;> rw [h2] at h <;> simp only [cond_true, cond_false] at h
  case false => exact absurd h hfl
  have := beqVs_eq _ _ h1
  subst this
  have hn := Nat.eq_of_beq_eq_true h2
  have hsub : subS { h := .e, nx := 0 } s = true := by
    show (bif Nat.beq 0 s.nx then subT .e s.h else false) = true
    rw [hn]; rfl
  obtain ⟨R1, F1⟩ := subS_rel hsub R F
  have hc := callF_ok JB tabF_ok tabF_sub tabF_flat tabF_x (fl := false) (conj := andB) (by simp) andB_ok hookA_b 10000 100
  refine (hc.1 18 args _ _ E w args' (by decide) hrun R1 F1 ha).mono fun e w' he => ?_
  obtain ⟨v, s', E', v', rfl, hj, K, R2, F2, hv⟩ := he
  have h0 : ∀ b, E b = none := fun b => F b (by omega)
  have h9 : ∀ b, E.val 9 b = none := fun b => by
    cases hb : E.val 9 b with
    | none => rfl
    | some v => obtain ⟨l, hl⟩ := R.facts.raw b v hb; rw [h0] at hl; cases hl
  have hor : ∃ f, isoS f (l.map (·.1)) V (mkS n l) v s' = true := by
    unfold orB at hj
    cases hq : isoS (assocN π0) (l.map (·.1)) V (mkS n l) v s'
    · have hj' : (bif isoS (assocN π0) (l.map (·.1)) V (mkS n l) v s' then true else isoS (assocN π) (l.map (·.1)) V (mkS n l) v s') = true := hj
      rw [hq] at hj'
      exact ⟨_, hj'⟩
    · exact ⟨_, hq⟩
  obtain ⟨f, hf⟩ := hor
  obtain ⟨k1, k2, k3, k4⟩ := iso_rel hf h0 h9 rfl K R2 hv
  exact ⟨V, mkS n l, _, v', rfl, h, subS_of hsub k1, k2, k3, k4⟩
end
end Go.Proofs.YtkmocipdekogkaaGreatDoor
end
section
namespace Go.Proofs.YtkmocipdekogkaaGreatDoor
noncomputable abbrev tT : AV := .bool true
noncomputable abbrev fF : AV := .bool false
noncomputable abbrev nU (n : Nat) : AV := .int .u64 (.ofNat n)
noncomputable abbrev nI (n : Nat) : AV := .int .i64 (.ofNat n)
noncomputable abbrev nY (n : Nat) : AV := .int .u8 (.ofNat n)
noncomputable abbrev pP (n : Nat) : AV := .ptr n 0
noncomputable abbrev sS (l : List Nat) : AV := .str ⟨⟨l.map UInt8.ofNat⟩⟩
noncomputable abbrev oR (sz : Nat) (l : List AV) : AO := .row l sz
noncomputable abbrev rp (n : Nat) (v : AV) : List AV := List.replicate n v
/-- A table of hooks with some more. -/
noncomputable def hooksW {β : Type} (l : List (Nat × (List AV → St → (AV → St → β) → β))) (h : Nat → Option (List AV → St → (AV → St → β) → β)) (f : Nat) : Option (List AV → St → (AV → St → β) → β) :=
  List.rec (h f) (fun p _ ih => bif Nat.beq f p.1 then some p.2 else ih) l
theorem hooksW_ok {β : Type} {J : β → Prop} {P : Program} {h : Nat → Option (List AV → St → (AV → St → β) → β)} (hh : HookOk J P h) : ∀ {l : List (Nat × (List AV → St → (AV → St → β) → β))}, (∀ p ∈ l, p.1 ≠ YF ∧ HookAt J P p.1 p.2) → HookOk J P (hooksW l h)
  | [], _ => hh
  | (g, q) :: r, hl => by
    have ih := hooksW_ok hh (l := r) (fun p hp => hl p (List.mem_cons_of_mem _ hp))
    obtain ⟨hg, hq⟩ := hl (g, q) (List.mem_cons_self ..)
    have hs : ∀ f, hooksW ((g, q) :: r) h f = bif Nat.beq f g then some q else hooksW r h f := fun f => rfl
    refine ⟨fun f h' hf hh' => ?_, fun h' hh' => ?_⟩
    · rw [hs] at hh'
      cases hb : Nat.beq f g
      · rw [hb] at hh'; exact ih.1 f h' hf hh'
      · rw [hb] at hh'
        have := Nat.eq_of_beq_eq_true hb
        subst this
        cases hh'
        exact hq
    · rw [hs] at hh'
      rw [beqN_ne (fun h => hg h.symm)] at hh'
      exact ih.2 h' hh'
end Go.Proofs.YtkmocipdekogkaaGreatDoor
end
section
namespace Go.Proofs.YtkmocipdekogkaaGreatDoor
set_option linter.unusedVariables false
set_option linter.unusedSimpArgs false
set_option linter.unusedSectionVars false

/-- The first, and what of the second has no place there. -/
noncomputable def uniT : Tr AO → Tr AO → Tr AO
  | .e, t => t
  | .n v l r, .e => .n v l r
  | .n v l r, .n v' l' r' => .n (match v with | some o => some o | none => v') (uniT l l') (uniT r r')
/-- The first without what has a place in the second. -/
noncomputable def difT : Tr AO → Tr AO → Tr AO
  | .e, _ => .e
  | .n v l r, .e => .n v l r
  | .n v l r, .n v' l' r' => .n (match v' with | some _ => none | none => v) (difT l l') (difT r r')
/-- All places are below n. -/
noncomputable def ltT (n : Nat) : Tr AO → (Nat → Nat) → Bool
  | .e, _ => true
  | .n v l r, p => bif (match v with | some _ => Nat.ble (Nat.add (p 0) 1) n | none => true) then (bif ltT n l (fun j => p (Nat.add (Nat.mul 2 j) 1)) then ltT n r (fun j => p (Nat.add (Nat.mul 2 j) 2)) else false) else false
theorem uniT_get : ∀ (a b : Tr AO) (k : Nat), (uniT a b).get k = match a.get k with | some o => some o | none => b.get k
  | .e, b, k => by simp only [uniT, Tr.get_e]
  | .n v l r, .e, k => by
    simp only [uniT, Tr.get_e]
    cases (Tr.n v l r).get k <;> rfl
  | .n v l r, .n v' l' r', k => by
    simp only [uniT]
    rw [Tr.get_n, Tr.get_n, Tr.get_n]
    by_cases h : k = 0
    · simp only [if_pos h]
    · simp only [if_neg h]
      by_cases h2 : k % 2 = 1
      · simp only [if_pos h2]; exact uniT_get l l' _
      · simp only [if_neg h2]; exact uniT_get r r' _
theorem difT_get : ∀ (a b : Tr AO) (k : Nat), (difT a b).get k = match b.get k with | some _ => none | none => a.get k
  | .e, b, k => by
    simp only [difT, Tr.get_e]
    cases b.get k <;> rfl
  | .n v l r, .e, k => by simp only [difT, Tr.get_e]
  | .n v l r, .n v' l' r', k => by
    simp only [difT]
    rw [Tr.get_n, Tr.get_n, Tr.get_n]
    by_cases h : k = 0
    · simp only [if_pos h]
    · simp only [if_neg h]
      by_cases h2 : k % 2 = 1
      · simp only [if_pos h2]; exact difT_get l l' _
      · simp only [if_neg h2]; exact difT_get r r' _
theorem ltT_ok {n : Nat} : ∀ {t : Tr AO} {p : Nat → Nat}, ltT n t p = true → ∀ k o, t.get k = some o → p k < n
  | .e, p, _, k, o, h => by rw [Tr.get_e] at h; cases h
  | .n v l r, p, hl, k, o, h => by
    simp only [ltT] at hl
    obtain ⟨h1, hl⟩ := bif_and hl
    obtain ⟨h2, h3⟩ := bif_and hl
    rw [Tr.get_n] at h
    by_cases h0 : k = 0
    · rw [if_pos h0] at h
      subst h0
      subst h
      exact Nat.le_of_ble_eq_true h1
    · rw [if_neg h0] at h
      by_cases hp : k % 2 = 1
      · rw [if_pos hp] at h
        have := ltT_ok h2 _ _ h
        have e : Nat.add (Nat.mul 2 (k / 2)) 1 = k := by show 2 * (k / 2) + 1 = k; omega
        rw [e] at this; exact this
      · rw [if_neg hp] at h
        have := ltT_ok h3 _ _ h
        have e : Nat.add (Nat.mul 2 (k / 2 - 1)) 2 = k := by show 2 * (k / 2 - 1) + 2 = k; omega
        rw [e] at this; exact this
noncomputable def frS (Sf S s : St) : St := { h := uniT Sf.h (difT s.h S.h), nx := Sf.nx }
section
variable {E E' : Env} {S s Sf : St} {w w' : World}
theorem frame_step (h : subS S s = true) (hl : ltT s.nx (difT s.h S.h) (fun j => j) = true) (R : Rel E s w) (F : Fresh E s) (K : Step E S w E' Sf w') (R' : Rel E' Sf w') (F' : Fresh E' Sf) :
    Step E s w E' (frS Sf S s) w' ∧ Rel E' (frS Sf S s) w' ∧ Fresh E' (frS Sf S s) := by
  have hg : ∀ b o, (frS Sf S s).h.get b = some o → Sf.h.get b = some o ∨ (Sf.h.get b = none ∧ S.h.get b = none ∧ s.h.get b = some o ∧ b < s.nx) := by
    intro b o hb
    have hb' : (uniT Sf.h (difT s.h S.h)).get b = some o := hb
    rw [uniT_get] at hb'
    cases h1 : Sf.h.get b with
    | some o' => rw [h1] at hb'; exact .inl hb'
    | none =>
      rw [h1] at hb'
      replace hb' : (difT s.h S.h).get b = some o := hb'
      have hlt := ltT_ok hl b o hb'
      rw [difT_get] at hb'
      cases h2 : S.h.get b with
      | some o' => rw [h2] at hb'; cases hb'
      | none => rw [h2] at hb'; exact .inr ⟨rfl, rfl, hb', hlt⟩
  obtain ⟨h1, h2⟩ := bif_and h
  have hnx : S.nx = s.nx := Nat.eq_of_beq_eq_true h1
  have hE : ∀ b l, b < s.nx → E' b = some l → E b = some l := by
    intro b l hb hl'
    cases he : E b with
    | none => rw [K.old b (by omega) he] at hl'; cases hl'
    | some l2 => rw [K.le.1 b l2 he] at hl'; cases hl'; rfl
  have hdis : ∀ b o, S.h.get b = none → s.h.get b = some o → ∀ c oc lb lc, S.h.get c = some oc → E b = some lb → E c = some lc → lc.g ≠ lb.g := by
    intro b o hb0 hb c oc lb lc hc hEb hEc hgg
    have := R.inj c b oc o lc lb (subT_ok h2 c oc hc) hb hEc hEb hgg
    subst this
    rw [hb0] at hc; cases hc
  refine ⟨⟨K.le, K.size, K.tape, K.os, K.output, fun k hk hno => K.frame k hk fun b o l hb hEb => hno b o l (subT_ok h2 b o hb) hEb, fun b o l hb hEb => ?_, by have := K.nx; show s.nx ≤ Sf.nx; omega, fun c hc => K.old c (by omega)⟩, ⟨fun b o l hb hEb => ?_, fun b c o o' lb lc hb hc hEb hEc hgg => ?_, R'.facts⟩, F'⟩
  · rcases hg b o hb with hb | ⟨_, hb0, hb, hlt⟩
    · rcases K.own b o l hb hEb with h | ⟨d, od, ld, hd, hEd, hg'⟩
      · exact .inl h
      · exact .inr ⟨d, od, ld, subT_ok h2 d od hd, hEd, hg'⟩
    · exact .inr ⟨b, o, l, hb, hE b l hlt hEb, rfl⟩
  · rcases hg b o hb with hb | ⟨_, hb0, hb, hlt⟩
    · exact R'.obj b o l hb hEb
    · have hEb' := hE b l hlt hEb
      have hr := R.obj b o l hb hEb'
      exact (hr.mono K.le).congr (K.frame l.g hr.lt fun c oc lc hc hEc => hdis b o hb0 hb c oc l lc hc hEb' hEc)
  · have key : ∀ b o, Sf.h.get b = some o → ∀ c o', S.h.get c = none → s.h.get c = some o' → c < s.nx → ∀ lb lc, E' b = some lb → E' c = some lc → lb.g = lc.g → False := by
      intro b o hb c o' hc0 hc hlt lb lc hEb hEc hgg
      have hEc' := hE c lc hlt hEc
      have hr := R.obj c o' lc hc hEc'
      rcases K.own b o lb hb hEb with h | ⟨d, od, ld, hd, hEd, hg'⟩
      · have := hr.lt; omega
      · exact hdis c o' hc0 hc d od lc ld hd hEc' hEd (hg'.trans hgg)
    rcases hg b o hb with hb | ⟨_, hb0, hb, hlt⟩
    · rcases hg c o' hc with hc | ⟨_, hc0, hc, hlt'⟩
      · exact R'.inj b c o o' lb lc hb hc hEb hEc hgg
      · exact (key b o hb c o' hc0 hc hlt' lb lc hEb hEc hgg).elim
    · rcases hg c o' hc with hc | ⟨_, hc0, hc, hlt'⟩
      · exact (key c o' hc b o hb0 hb hlt lc lb hEc hEb hgg.symm).elim
      · exact R.inj b c o o' lb lc hb hc (hE b lb hlt hEb) (hE c lc hlt' hEc) hgg
end
/-- A function, from a state that is written out to another, whatever else stands. -/
noncomputable def frameH {β : Type} (fl : β) (A : List AV) (S : St) (V : AV) (S' : St) (args : List AV) (s : St) (k : AV → St → β) : β :=
  bif beqVs args A then (bif subS S s then (bif ltT s.nx (difT s.h S.h) (fun j => j) then k V (frS S' S s) else fl) else fl) else fl
theorem frame_ok {β : Type} (J : β → Prop) {fl : β} (hfl : ¬ J fl) {P : Program} {f : Nat} {A : List AV} {S S' : St} {V : AV} (h : PieceC P f A S V S') : HookAt J P f (frameH fl A S V S') := by
  intro args s k E w args' hj R F ha
  unfold frameH at hj
  cases h1 : beqVs args A <;> rw [h1] at hj <;> simp only [cond_true, cond_false] at hj
  case false => exact absurd hj hfl
  cases h2 : subS S s <;> rw [h2] at hj <;> simp only [cond_true, cond_false] at hj
  case false => exact absurd hj hfl
  cases h3 : ltT s.nx (difT s.h S.h) (fun j => j) <;> rw [h3] at hj <;> simp only [cond_true, cond_false] at hj
  case false => exact absurd hj hfl
  have := beqVs_eq _ _ h1
  subst this
  obtain ⟨R1, F1⟩ := subS_rel h2 R F
  refine (h E w args' R1 F1 ha).mono fun e w' he => ?_
  obtain ⟨E', v', rfl, K, R2, F2, hv⟩ := he
  obtain ⟨K', R', F'⟩ := frame_step h2 h3 R F K R2 F2
  exact ⟨V, _, E', v', rfl, hj, K', R', F', hv⟩
/-- A run from a state that is written out. -/
theorem run_c {hook : Nat → Option (List AV → St → (AV → St → Bool) → Bool)} (hH : HookOk JB Tryz.prog hook) {f : Nat} (hne : f ≠ YF) {A : List AV} {S S' : St} {V : AV} (hrun : pieceB tabF hook f A S V S' = true) : PieceC Tryz.prog f A S V S' := by
  intro E w args' R F ha
  refine ((callF_ok JB tabF_ok tabF_sub tabF_flat tabF_x (fl := false) (conj := andB) (by simp) andB_ok hH 10000 100).1 f A _ _ E w args' hne hrun R F ha).mono fun e w' he => ?_
  obtain ⟨v, s', E', v', rfl, hj, K, R2, F2, hv⟩ := he
  obtain ⟨h1, h2⟩ := bif_and hj
  have := beqV_eq _ _ h1
  subst this
  obtain ⟨R3, F3⟩ := subS_rel h2 R2 F2
  exact ⟨E', v', rfl, subS_to h2 K, R3, F3, hv⟩
end Go.Proofs.YtkmocipdekogkaaGreatDoor
end
