/-
  The machine's tables are the program's.
  The machine's tables are the program's: the laws that the machine asks for.
  The machine's tables are the program's: methods, functions without a body, structs that are compared.
-/
import Derived.Test.YtkmocipdekogkaaGreatDoorAt
import Derived.Test.YtkmocipdekogkaaGreatDoorAc
import Derived.Laws.Externs
set_option linter.all false
section
namespace Go.Proofs.YtkmocipdekogkaaGreatDoor
set_option linter.unusedVariables false
noncomputable def tab : Tab :=
  { func := fun f => bif Nat.ble 436 f then none else ftab.get f, ti := fun t => bif Nat.ble 547 t then none else ttab.get t, flat := fun _ => none, meth := methA, mask := maskA, plan := planA, ext := fun _ => none }
noncomputable def fnOk (pl : Plans) (fn : Func) : Bool := bif fn.name == "runtime.NumGoroutine" then false else (match fn.body with | some c => codeOk pl fn.ntmps c | none => true)
theorem fnOk_spec {pl : Plans} {fn : Func} (h : fnOk pl fn = true) : (fn.name == "runtime.NumGoroutine") = false ∧ ∀ c, fn.body = some c → codeOk pl fn.ntmps c = true := by
  unfold fnOk at h
  cases hn : fn.name == "runtime.NumGoroutine" <;> rw [hn] at h <;> simp only [cond_true, cond_false] at h
  case true => cases h
  exact ⟨rfl, fun c hc => by rw [hc] at h; exact h⟩
noncomputable def fnAll (lo n : Nat) : Bool := (List.range' lo n).all fun f => match ftab.get f with | some fn => fnOk (planA f) fn | none => true
theorem fn0 : fnAll 0 100 = true := by kernel_rfl
theorem fn1 : fnAll 100 100 = true := by kernel_rfl
theorem fn2 : fnAll 200 100 = true := by kernel_rfl
theorem fn3 : fnAll 300 136 = true := by kernel_rfl
theorem fn_spec {f : Nat} {fn : Func} (hf : f < 436) (h : ftab.get f = some fn) : fnOk (planA f) fn = true := by
  have key : ∀ lo n, fnAll lo n = true → lo ≤ f → f < lo + n → fnOk (planA f) fn = true := fun lo n hall h1 h2 => by
    unfold fnAll at hall
    rw [List.all_eq_true] at hall
    have := hall f (by simp; omega)
    rw [h] at this
    exact this
  rcases Nat.lt_or_ge f 100 with h1 | h1
  · exact key 0 100 fn0 (by omega) (by omega)
  rcases Nat.lt_or_ge f 200 with h2 | h2
  · exact key 100 100 fn1 (by omega) (by omega)
  rcases Nat.lt_or_ge f 300 with h3 | h3
  · exact key 200 100 fn2 (by omega) (by omega)
  · exact key 300 136 fn3 (by omega) (by omega)
theorem ftab_list : (List.range 436).map ftab.get = (List.range 436).map (fun f => Tryz.prog.funcs[f]?) := by kernel_rfl
theorem map_range {α : Type} {n : Nat} {g h : Nat → α} (e : (List.range n).map g = (List.range n).map h) {i : Nat} (hi : i < n) : g i = h i := by
  have := congrArg (fun l => l[i]?) e
  simpa [hi] using this
theorem ty_desc : (List.range 547).map (fun t => (ttab.get t).map (·.desc)) = (List.range 547).map (fun t => Tryz.prog.underlying t) := by kernel_rfl
theorem ty_size : (List.range 547).map (fun t => (ttab.get t).map (·.size)) = (List.range 547).map (fun t => (Tryz.prog.info? t).map (·.size)) := by kernel_rfl
theorem ty_bytes : (List.range 547).map (fun t => (ttab.get t).map (·.bytes)) = (List.range 547).map (fun t => (Tryz.prog.info? t).map (·.bytes)) := by kernel_rfl
theorem ty_zero : (List.range 547).map (fun t => (ttab.get t).map (·.zero)) = (List.range 547).map (fun t => (Tryz.prog.info? t).bind fun i => i.zero.map absV) := by kernel_rfl
noncomputable def szAll : Bool := (List.range 547).all fun t => match Tryz.prog.info? t with | some i => (match i.zero with | some z => bif (absV z).cells.isSome then Nat.beq z.cells.size i.size else true | none => true) | none => true
theorem sz_ok : szAll = true := by kernel_rfl
noncomputable def subAll : Bool := (List.range 547).all fun t => match tab.ti t with | some i => subD tab i.desc | none => true
theorem sub_ok : subAll = true := by kernel_rfl
end Go.Proofs.YtkmocipdekogkaaGreatDoor
end
section
namespace Go.Proofs.YtkmocipdekogkaaGreatDoor
set_option linter.unusedVariables false
theorem tab_ti {t : Nat} {i : TI} (h : tab.ti t = some i) : t < 547 ∧ ttab.get t = some i := by
  have h' : (bif Nat.ble 547 t then none else ttab.get t) = some i := h
  cases hb : Nat.ble 547 t <;> rw [hb] at h' <;> simp only [cond_true, cond_false] at h'
  · refine ⟨?_, h'⟩
    rcases Nat.lt_or_ge t 547 with h1 | h1
    · exact h1
    · rw [Nat.ble_eq_true_of_le h1] at hb; cases hb
  · cases h'
theorem tab_func {f : Nat} {fn : Func} (h : tab.func f = some fn) : f < 436 ∧ ftab.get f = some fn := by
  have h' : (bif Nat.ble 436 f then none else ftab.get f) = some fn := h
  cases hb : Nat.ble 436 f <;> rw [hb] at h' <;> simp only [cond_true, cond_false] at h'
  · refine ⟨?_, h'⟩
    rcases Nat.lt_or_ge f 436 with h1 | h1
    · exact h1
    · rw [Nat.ble_eq_true_of_le h1] at hb; cases hb
  · cases h'
theorem tab_ok : TOk Tryz.prog tab where
  func := fun f fn h => by
    obtain ⟨h1, h2⟩ := tab_func h
    have := map_range ftab_list h1
    rw [h2] at this
    obtain ⟨h3, h4⟩ := fnOk_spec (fn_spec h1 h2)
    exact ⟨this.symm, h3, h4⟩
  desc := fun t i h => by
    obtain ⟨h1, h2⟩ := tab_ti h
    have := map_range ty_desc h1
    simp only [h2, Option.map_some] at this
    exact this.symm
  yf := by kernel_rfl
  mixed := by kernel_rfl
  info := fun t i h => by
    obtain ⟨h1, h2⟩ := tab_ti h
    have e1 := map_range ty_size h1
    have e2 := map_range ty_bytes h1
    simp only [h2, Option.map_some] at e1 e2
    cases hi : Tryz.prog.info? t with
    | none => rw [hi] at e1; cases e1
    | some info =>
      rw [hi] at e1 e2
      simp only [Option.map_some, Option.some.injEq] at e1 e2
      exact ⟨info, rfl, e1.symm, e2.symm⟩
  zero := fun t i h => by
    obtain ⟨h1, h2⟩ := tab_ti h
    have e1 := map_range ty_size h1
    have e2 := map_range ty_zero h1
    simp only [h2, Option.map_some] at e1 e2
    cases hi : Tryz.prog.info? t with
    | none => rw [hi] at e1; cases e1
    | some info =>
      rw [hi] at e1 e2
      simp only [Option.map_some, Option.some.injEq, Option.bind_some] at e1 e2
      cases hz : info.zero with
      | none => rw [hz] at e2; cases e2
      | some z =>
        rw [hz] at e2
        simp only [Option.map_some, Option.some.injEq] at e2
        refine ⟨info, z, rfl, hz, e2, fun hs => ?_⟩
        have := sz_ok
        unfold szAll at this
        rw [List.all_eq_true] at this
        have := this t (by simpa using h1)
        rw [hi] at this
        simp only [hz] at this
        rw [← e2, hs] at this
        simp only [cond_true] at this
        rw [Nat.eq_of_beq_eq_true this, e1]
theorem tab_sub : SubOk tab := by
  intro t i h
  have := sub_ok
  unfold subAll at this
  rw [List.all_eq_true] at this
  have := this t (by simpa using (tab_ti h).1)
  rw [h] at this
  exact this
theorem tab_flat : FlatOk Tryz.prog tab := fun t ks h => by cases h
end Go.Proofs.YtkmocipdekogkaaGreatDoor
end
section
namespace Go.Proofs.YtkmocipdekogkaaGreatDoor
set_option linter.unusedVariables false
noncomputable def mth (name : String) (g : Nat) (ptr : Bool) : Bool := match Tryz.t374.methods.find? (·.name == name) with
  | some m => bif m.path.isEmpty then decide (m.func = some (g, ptr)) else false
  | none => false
theorem mth_spec {name : String} {g : Nat} {ptr : Bool} (h : mth name g ptr = true) : ∃ info m, Tryz.prog.info? 374 = some info ∧ info.methods.find? (·.name == name) = some m ∧ m.path = #[] ∧ m.func = some (g, ptr) := by
  unfold mth at h
  split at h
  · rename_i m hm
    cases hp : m.path.isEmpty <;> rw [hp] at h <;> simp only [cond_true, cond_false] at h
    case false => cases h
    exact ⟨Tryz.t374, m, by kernel_rfl, hm, by simpa using hp, of_decide_eq_true h⟩
  · cases h
theorem m1 : mth "Len" 417 false = true := by kernel_rfl
theorem m2 : mth "Less" 418 false = true := by kernel_rfl
theorem m3 : mth "Swap" 419 false = true := by kernel_rfl
theorem m4 : mth "Push" 421 true = true := by kernel_rfl
theorem m5 : mth "Pop" 420 true = true := by kernel_rfl
noncomputable def flatLs : List Nat := [36, 55, 58, 128, 203]
noncomputable def tabS : Tab := { tab with flat := fun _ => some [] }
noncomputable def flatF (t : Nat) : Option (List Kd) := bif memB t flatLs then flatD tabS 5 t else none
/-- How often a byte comes. -/
def countB (s : ByteArray) (c : UInt8) : Int := s.foldl (fun n x => if x == c then n + 1 else n) ((0 : Nat) : Int)
noncomputable def extF (g : Nat) : Option (List AV → Option AV) :=
  bif Nat.beq g 328 then some (fun args => match args with
    | [.int .u64 (.ofNat x), .int .u64 (.ofNat y), .int .u64 (.ofNat c)] => bif Nat.ble c 1 then some (.tup [.int .u64 (.ofNat ((x + y + c) % 18446744073709551616)), .int .u64 (.ofNat ((x + y + c) / 18446744073709551616))]) else none
    | _ => none)
  else bif Nat.beq g 127 then some (fun args => match args with
    | [.str s, .int .u8 (.ofNat c)] => some (.int .i64 (countB s c.toUInt8))
    | _ => none)
  else bif Nat.beq g 335 then some (fun args => match args with
    | [.str s, .int .u8 (.ofNat c)] => some (.int .i64 (firstIdx s c.toUInt8))
    | _ => none)
  else none
noncomputable def tabF : Tab := { tab with flat := flatF, ext := extF }
theorem tabF_ok : TOk Tryz.prog tabF := ⟨tab_ok.func, tab_ok.desc, tab_ok.mixed, tab_ok.yf, tab_ok.info, tab_ok.zero⟩
theorem tabF_sub : SubOk tabF := fun t i h => by
  have := tab_sub t i h
  revert this
  cases i.desc <;> exact id
theorem tabF_flat : FlatOk Tryz.prog tabF := by
  intro t ks h
  have h' : (bif memB t flatLs then flatD tabS 5 t else none) = some ks := h
  cases hm : memB t flatLs <;> rw [hm] at h' <;> simp only [cond_true, cond_false] at h'
  case false => cases h'
  have hin := (memB_iff t flatLs).1 hm
  simp only [flatLs, List.mem_cons, List.not_mem_nil, or_false] at hin
  rcases hin with rfl | rfl | rfl | rfl | rfl
  · exact ⟨by kernel_rfl, by kernel_rfl, (show flatD tabF 5 36 = flatD tabS 5 36 by kernel_rfl).trans h'⟩
  · exact ⟨by kernel_rfl, by kernel_rfl, (show flatD tabF 5 55 = flatD tabS 5 55 by kernel_rfl).trans h'⟩
  · exact ⟨by kernel_rfl, by kernel_rfl, (show flatD tabF 5 58 = flatD tabS 5 58 by kernel_rfl).trans h'⟩
  · exact ⟨by kernel_rfl, by kernel_rfl, (show flatD tabF 5 128 = flatD tabS 5 128 by kernel_rfl).trans h'⟩
  · exact ⟨by kernel_rfl, by kernel_rfl, (show flatD tabF 5 203 = flatD tabS 5 203 by kernel_rfl).trans h'⟩
theorem x328 : Tryz.prog.funcs[328]? = some Tryz.f328 := by kernel_rfl
theorem x127 : Tryz.prog.funcs[127]? = some Tryz.f127 := by kernel_rfl
theorem x335 : Tryz.prog.funcs[335]? = some Tryz.f335 := by kernel_rfl
theorem run_count {P : Program} (s : ByteArray) (c : Nat) (w : World) : (Extern.BytealgCount.count #[.string s, .int .u8 (Int.ofNat c)]).run P w = .ok (.int .i64 (countB s c.toUInt8)) w := by
  change Sem.run P (do
    let b ← Extern.Bytes.bytesOf (.string s)
    let c' ← Extern.Bytes.asByte (.int .u8 (Int.ofNat c))
    pure (goInt (b.foldl (fun n x => if x == c' then n + 1 else n) (0 : Nat)))) w = _
  simp only [Extern.Bytes.bytesOf, Extern.Bytes.asByte, Sem.run_bind, Sem.run_pure, Result.andThen]
  rfl
theorem tabF_x : XOk Tryz.prog tabF where
  meth := fun t name g ptr h => by
    have h' : methA t name = some (g, ptr) := h
    unfold methA at h'
    cases hb : Nat.beq t 374 <;> rw [hb] at h' <;> simp only [cond_true, cond_false] at h'
    case false => cases h'
    have := Nat.eq_of_beq_eq_true hb
    subst this
    split at h'
    · cases h'; exact mth_spec m1
    · cases h'; exact mth_spec m2
    · cases h'; exact mth_spec m3
    · cases h'; exact mth_spec m4
    · cases h'; exact mth_spec m5
    · cases h'
  ext := fun g e args v h hv E args' w ha => by
    have h' : extF g = some e := h
    unfold extF at h'
    cases hb : Nat.beq g 328 <;> rw [hb] at h' <;> simp only [cond_true, cond_false] at h'
    case true =>
      have := Nat.eq_of_beq_eq_true hb
      subst this
      cases h'
      simp only at hv
      split at hv
      · rename_i x y c
        cases hc : Nat.ble c 1 <;> rw [hc] at hv <;> simp only [cond_true, cond_false] at hv
        case false => cases hv
        cases hv
        have hc' := Nat.le_of_ble_eq_true hc
        cases ha with
        | cons h1 ha => cases ha with
          | cons h2 ha => cases ha with
            | cons h3 ha =>
              cases ha; cases h1; cases h2; cases h3
              have hr := run_add64 (P := Tryz.prog) (x : Int) y c (by omega) (by omega) (by omega) (by omega) w
              refine ⟨_, ?_, .tup (.cons (.int _ _) (.cons (.int _ _) .nil))⟩
              rw [run_callFunc_extern x328 (by kernel_rfl) (by kernel_rfl) (by kernel_rfl) (e := add64Entry) (by kernel_rfl)]
              have e1 : [Value.int .u64 (Int.ofNat x), .int .u64 (Int.ofNat y), .int .u64 (Int.ofNat c)].toArray = #[.int .u64 (x : Int), .int .u64 (y : Int), .int .u64 (c : Int)] := rfl
              rw [e1, hr]
              rfl
      · cases hv
    case false =>
    cases hb2 : Nat.beq g 127 <;> rw [hb2] at h' <;> simp only [cond_true, cond_false] at h'
    case true =>
      have := Nat.eq_of_beq_eq_true hb2
      subst this
      cases h'
      simp only at hv
      split at hv
      · rename_i s c
        cases hv
        cases ha with
        | cons h1 ha => cases ha with
          | cons h2 ha =>
            cases ha; cases h1; cases h2
            refine ⟨_, ?_, .int _ _⟩
            rw [run_callFunc_extern x127 (by kernel_rfl) (by kernel_rfl) (by kernel_rfl) (e := Extern.BytealgCount.count) (by kernel_rfl)]
            have e1 : [Value.string s, .int .u8 (Int.ofNat c)].toArray = #[.string s, .int .u8 (Int.ofNat c)] := rfl
            rw [e1, run_count]
            rfl
      · cases hv
    case false =>
    cases hb3 : Nat.beq g 335 <;> rw [hb3] at h' <;> simp only [cond_true, cond_false] at h'
    case true =>
      have := Nat.eq_of_beq_eq_true hb3
      subst this
      cases h'
      simp only at hv
      split at hv
      · rename_i s c
        cases hv
        cases ha with
        | cons h1 ha => cases ha with
          | cons h2 ha =>
            cases ha; cases h1; cases h2
            refine ⟨_, ?_, .int _ _⟩
            rw [run_callFunc_extern x335 (by kernel_rfl) (by kernel_rfl) (by kernel_rfl) (e := Extern.BytealgIndexByte.indexByte) (by kernel_rfl)]
            have e1 : [Value.string s, .int .u8 (Int.ofNat c)].toArray = #[.string s, .int .u8 ((c : Nat) : Int)] := rfl
            rw [e1, run_indexByte_string]
            rfl
      · cases hv
    case false => cases h'
end Go.Proofs.YtkmocipdekogkaaGreatDoor
end
