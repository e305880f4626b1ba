/-
  How a machine's memory stands to the model's.
  A machine's memory and the model's: loads, stores, new blocks.
  A machine's arithmetic and the model's.
  A machine's operations and the model's: the plain ones.
  A machine's equality and the model's.
  A machine's operations and the model's: comparisons, arithmetic, fields, indices.
  A machine's operations and the model's: fields, indices, slices, conversions.
  A machine's operations and the model's: append.
-/
import Derived.Test.YtkmocipdekogkaaGreatDoorAa
import Derived.ProofKit
import Derived.WalkKit
import Derived.Orders
import Derived.Laws.CopyRow
import Derived.Laws.Build
import Derived.Laws.StructEq
import Derived.Laws.BytesString
set_option linter.all false
section
namespace Go.Proofs.YtkmocipdekogkaaGreatDoor
set_option linter.unusedVariables false
set_option linter.unusedSimpArgs false

theorem lenL_eq {α : Type} : ∀ l : List α, lenL l = l.length
  | [] => rfl
  | _ :: r => by simp [lenL, lenL_eq r]
theorem atL_eq {α : Type} : ∀ (i : Nat) (l : List α), atL i l = l[i]?
  | _, [] => by simp [atL]
  | 0, _ :: _ => by simp [atL]
  | i + 1, _ :: r => by simp [atL, atL_eq i r]
theorem takeL_eq : ∀ (n : Nat) (l : List AV), takeL n l = l.take n
  | 0, _ => by simp [takeL]
  | _ + 1, [] => by simp [takeL]
  | n + 1, _ :: r => by simp [takeL, takeL_eq n r]
theorem dropL_eq : ∀ (n : Nat) (l : List AV), dropL n l = l.drop n
  | 0, _ => by simp [dropL]
  | _ + 1, [] => by simp [dropL]
  | n + 1, _ :: r => by simp [dropL, dropL_eq n r]
theorem cutL_eq (o n : Nat) (l : List AV) : cutL o n l = (l.drop o).take n := by simp [cutL, takeL_eq, dropL_eq]
theorem splice_eq : ∀ (l : List AV) (o : Nat) (vs : List AV), o + vs.length ≤ l.length → splice l o vs = l.take o ++ vs ++ l.drop (o + vs.length)
  | l, o, [], h => by cases l <;> cases o <;> simp [splice] at * <;> (rename_i a r n; have := splice_eq r n [] (by simpa using h); simpa using this)
  | [], o, v :: vs, h => by simp at h
  | a :: r, 0, v :: vs, h => by
    have := splice_eq r 0 vs (by simp at h ⊢; omega)
    simp [splice, this]
  | a :: r, o + 1, v :: vs, h => by
    have := splice_eq r o (v :: vs) (by simp at h ⊢; omega)
    simp [splice, this]
    rw [show o + 1 + (vs.length + 1) = (o + (vs.length + 1)) + 1 by omega, List.drop_succ_cons]

theorem beqN_ne {a b : Nat} (h : ¬ a = b) : Nat.beq a b = false := by
  cases e : Nat.beq a b
  · rfl
  · exact absurd (Nat.eq_of_beq_eq_true e) h
/-! ### Tries -/
theorem Tr.get_e {α : Type} (k : Nat) : (Tr.e : Tr α).get k = none := rfl
theorem Tr.get_n {α : Type} (v : Option α) (l r : Tr α) (k : Nat) : (Tr.n v l r).get k = if k = 0 then v else if k % 2 = 1 then l.get (k / 2) else r.get (k / 2 - 1) := by
  show @Bool.rec (fun _ => Option α) (@Bool.rec (fun _ => Option α) (Tr.get r (Nat.sub (Nat.div k 2) 1)) (Tr.get l (Nat.div k 2)) (Nat.beq (Nat.mod k 2) 1)) v (Nat.beq k 0) = _
  by_cases h : k = 0
  · subst h; rfl
  · have h1 : Nat.beq k 0 = false := beqN_ne h
    rw [h1, if_neg h]
    by_cases h2 : k % 2 = 1
    · have h3 : Nat.beq (Nat.mod k 2) 1 = true := by show Nat.beq (k % 2) 1 = true; simpa using h2
      rw [h3, if_pos h2]; rfl
    · have h3 : Nat.beq (Nat.mod k 2) 1 = false := beqN_ne h2
      rw [h3, if_neg h2]; rfl
theorem Tr.get_sing {α : Type} (v : Option α) : ∀ (f k : Nat), k < f → ∀ j, (Tr.sing v f k).get j = if j = k then v else none
  | 0, k, h, j => by omega
  | f + 1, k, h, j => by
    have hs : Tr.sing v (f + 1) k = if k = 0 then .n v .e .e else if k % 2 = 1 then .n none (Tr.sing v f (k / 2)) .e else .n none .e (Tr.sing v f (k / 2 - 1)) := by
      show sel (Nat.beq k 0) _ (sel (Nat.beq (Nat.mod k 2) 1) _ _) = _
      by_cases h : k = 0
      · subst h; rfl
      · have h1 : Nat.beq k 0 = false := beqN_ne h
        rw [h1, if_neg h]
        by_cases h2 : k % 2 = 1
        · have h3 : Nat.beq (Nat.mod k 2) 1 = true := by show Nat.beq (k % 2) 1 = true; simpa using h2
          rw [h3, if_pos h2]; rfl
        · have h3 : Nat.beq (Nat.mod k 2) 1 = false := beqN_ne h2
          rw [h3, if_neg h2]; rfl
    rw [hs]
    by_cases h0 : k = 0
    · subst h0
      rw [if_pos rfl, Tr.get_n]
      by_cases hj : j = 0
      · simp [hj]
      · simp [hj, Tr.get_e]
    · rw [if_neg h0]
      by_cases h2 : k % 2 = 1
      · rw [if_pos h2, Tr.get_n, Tr.get_sing v f (k / 2) (by omega), Tr.get_e]
        by_cases hj : j = 0
        · simp [hj]; intro h; omega
        · rw [if_neg hj]
          by_cases hj2 : j % 2 = 1
          · rw [if_pos hj2]
            have : j / 2 = k / 2 ↔ j = k := by omega
            simp [this]
          · rw [if_neg hj2]
            have : ¬ j = k := by omega
            simp [this]
      · rw [if_neg h2, Tr.get_n, Tr.get_sing v f (k / 2 - 1) (by omega), Tr.get_e]
        by_cases hj : j = 0
        · simp [hj]; intro h; omega
        · rw [if_neg hj]
          by_cases hj2 : j % 2 = 1
          · rw [if_pos hj2]
            have : ¬ j = k := by omega
            simp [this]
          · rw [if_neg hj2]
            have : j / 2 - 1 = k / 2 - 1 ↔ j = k := by omega
            simp [this]
theorem Tr.upd_n {α : Type} (u v : Option α) (l r : Tr α) (k : Nat) : Tr.upd v (.n u l r) k = if k = 0 then .n v l r else if k % 2 = 1 then .n u (Tr.upd v l (k / 2)) r else .n u l (Tr.upd v r (k / 2 - 1)) := by
  show @Bool.rec (fun _ => Tr α) (@Bool.rec (fun _ => Tr α) _ _ (Nat.beq (Nat.mod k 2) 1)) _ (Nat.beq k 0) = _
  by_cases h : k = 0
  · subst h; rfl
  · have h1 : Nat.beq k 0 = false := beqN_ne h
    rw [h1, if_neg h]
    by_cases h2 : k % 2 = 1
    · have h3 : Nat.beq (Nat.mod k 2) 1 = true := by show Nat.beq (k % 2) 1 = true; simpa using h2
      rw [h3, if_pos h2]; rfl
    · have h3 : Nat.beq (Nat.mod k 2) 1 = false := beqN_ne h2
      rw [h3, if_neg h2]; rfl
theorem Tr.get_upd {α : Type} (v : Option α) : ∀ (t : Tr α) (k j : Nat), (Tr.upd v t k).get j = if j = k then v else t.get j
  | .e, k, j => by
    show (Tr.sing v (k + 1) k).get j = _
    rw [Tr.get_sing v (k + 1) k (by omega)]; rfl
  | .n u l r, k, j => by
    rw [Tr.upd_n]
    by_cases h0 : k = 0
    · subst h0
      rw [if_pos rfl, Tr.get_n, Tr.get_n]
      by_cases hj : j = 0 <;> simp [hj]
    · rw [if_neg h0]
      by_cases h2 : k % 2 = 1
      · rw [if_pos h2, Tr.get_n, Tr.get_n, Tr.get_upd v l]
        by_cases hj : j = 0
        · simp [hj]; intro h; omega
        · rw [if_neg hj, if_neg hj]
          by_cases hj2 : j % 2 = 1
          · rw [if_pos hj2, if_pos hj2]
            have : j / 2 = k / 2 ↔ j = k := by omega
            simp [this]
          · rw [if_neg hj2, if_neg hj2]
            have : ¬ j = k := by omega
            simp [this]
      · rw [if_neg h2, Tr.get_n, Tr.get_n, Tr.get_upd v r]
        by_cases hj : j = 0
        · simp [hj]; intro h; omega
        · rw [if_neg hj, if_neg hj]
          by_cases hj2 : j % 2 = 1
          · rw [if_pos hj2, if_pos hj2]
            have : ¬ j = k := by omega
            simp [this]
          · rw [if_neg hj2, if_neg hj2]
            have : j / 2 - 1 = k / 2 - 1 ↔ j = k := by omega
            simp [this]
theorem Tr.get_set {α : Type} (t : Tr α) (k j : Nat) (v : α) : (t.set k v).get j = if j = k then some v else t.get j := Tr.get_upd _ t k j
theorem Tr.get_del {α : Type} (t : Tr α) (k j : Nat) : (t.del k).get j = if j = k then none else t.get j := Tr.get_upd _ t k j

/-! ### The relation -/
/-- Where a block lies: its number in the model's memory, its first cell there, the cells of the whole row there, the cells of an element. -/
structure Loc where
  g : Nat
  sh : Nat
  n : Nat
  sz : Nat
/-- Where the machine's blocks lie; what is given from outside. -/
structure Env where
  at' : Nat → Option Loc
  val : Nat → Nat → Option Value
  base : Nat
instance : CoeFun Env (fun _ => Nat → Option Loc) := ⟨Env.at'⟩
def Env.le (E E' : Env) : Prop := (∀ b l, E b = some l → E' b = some l) ∧ E'.val = E.val ∧ E'.base = E.base
theorem Env.le.refl (E : Env) : Env.le E E := ⟨fun _ _ h => h, rfl, rfl⟩
theorem Env.le.trans {E E' E'' : Env} (h : Env.le E E') (k : Env.le E' E'') : Env.le E E'' := ⟨fun b l e => k.1 b l (h.1 b l e), k.2.1.trans h.2.1, k.2.2.trans h.2.2⟩
def Env.ub (E : Env) (g : Bool) (n : Nat) : Nat := bif g then n + E.base else n
theorem Env.le.ub {E E' : Env} (h : Env.le E E') (g : Bool) (n : Nat) : E'.ub g n = E.ub g n := by unfold Env.ub; rw [h.2.2]
/-- A text that is a name: its runes, by the model's own decoding. -/
def nameLoop (u : ByteArray) : Nat → Nat → Bool
  | 0, _ => false
  | f + 1, pos => if u.size ≤ pos then true else
      if (Utf8.decode u pos).1 < 32 ∨ (127 ≤ (Utf8.decode u pos).1 ∧ (Utf8.decode u pos).1 ≤ 159) then false else
      if (Utf8.decode u pos).1 = 65533 ∧ (Utf8.decode u pos).2 ≠ 3 then false else nameLoop u f (pos + (Utf8.decode u pos).2)
/-- A number's eight bytes, the highest first. -/
def eightB (n : Nat) : List Nat := [n / 2 ^ 56 % 256, n / 2 ^ 48 % 256, n / 2 ^ 40 % 256, n / 2 ^ 32 % 256, n / 2 ^ 24 % 256, n / 2 ^ 16 % 256, n / 2 ^ 8 % 256, n % 256]
/-- A span's bytes, by its cells. -/
def spanB : List Value → Option (List Nat)
  | [.int .u64 (.ofNat t), .int .u64 (.ofNat i), .int .u64 (.ofNat p), .int .u64 (.ofNat a), .int .u64 (.ofNat l), .string x, .string y, .bool f] =>
    some (eightB t ++ eightB i ++ eightB p ++ eightB a ++ eightB l ++ [if f then 1 else 0] ++ (x.size :: x.data.toList.map UInt8.toNat) ++ (y.size :: y.data.toList.map UInt8.toNat))
  | _ => none
/-- What is known of a value from outside, by its class: 0 to 2 numbers of traces and spans, 3 times, 4 any number, 5 names, 6 truths. -/
def clsOk (c : Nat) (v : Value) : Prop :=
  (c ≤ 2 → ∃ n : Nat, v = .int .u64 n ∧ 0 < n ∧ n < 2 ^ 64) ∧
  (c = 3 → ∃ n : Nat, v = .int .u64 n ∧ n ≤ 2 ^ 40) ∧
  (c = 4 → ∃ n : Nat, v = .int .u64 n ∧ n < 2 ^ 64) ∧
  (c = 5 → ∃ u : ByteArray, v = .string u ∧ 1 ≤ u.size ∧ u.size ≤ 32 ∧ nameLoop u 33 0 = true) ∧
  (c = 6 → ∃ b, v = .bool b)
def natV : Value → Nat | .int _ n => n.toNat | _ => 0
structure Facts (E : Env) : Prop where
  cls : ∀ c b v, E.val c b = some v → clsOk c v
  ord : ∀ c i j v v', c ≤ 2 → i < j → j ≤ 7 → E.val c i = some v → E.val c j = some v' → natV v < natV v'
  ne : ∀ c i j v v', c ≤ 2 → i < j → j ≤ 15 → E.val c i = some v → E.val c j = some v' → v ≠ v'
  base : E.base ≤ baseMax
  raw : ∀ b v, E.val 9 b = some v → ∃ l, E b = some l
theorem Facts.mono {E E' : Env} (h : Facts E) (hE : Env.le E E') : Facts E' := ⟨fun c b v => by rw [hE.2.1]; exact h.cls c b v, fun c i j v v' => by rw [hE.2.1]; exact h.ord c i j v v', fun c i j v v' => by rw [hE.2.1]; exact h.ne c i j v v', by rw [hE.2.2]; exact h.base, fun b v hb => by rw [hE.2.1] at hb; obtain ⟨l, hl⟩ := h.raw b v hb; exact ⟨l, hE.1 _ _ hl⟩⟩

mutual
inductive Rl (E : Env) : AV → Value → Prop
  | bool (b : Bool) : Rl E (.bool b) (.bool b)
  | int (k : IntKind) (n : Int) : Rl E (.int k n) (.int k n)
  | str (s : ByteArray) : Rl E (.str s) (.string s)
  | nilp : Rl E .nilp (.pointer none)
  | ptr {b : Nat} {l : Loc} (off : Nat) (h : E b = some l) : Rl E (.ptr b off) (.pointer (some ⟨l.g, l.sh + off, none⟩))
  | nils : Rl E .nils (.slice none 0 0)
  | sl {b : Nat} {l : Loc} (off len cap : Nat) (h : E b = some l) (hl : len ≤ cap) : Rl E (.sl b off len cap) (.slice (some ⟨l.g, l.sh + off, none⟩) len cap)
  | slo {b : Nat} {l : Loc} (off len c : Nat) (h : E b = some l) (hc : c * l.sz + (l.sh + off) = l.n) (hl : len ≤ c) : Rl E (.slo b off len) (.slice (some ⟨l.g, l.sh + off, none⟩) len c)
  | slz (a : Addr) (c : Nat) : Rl E .slz (.slice (some a) 0 c)
  | nilm : Rl E .nilm (.map none)
  | mp {b : Nat} {l : Loc} (h : E b = some l) : Rl E (.mp b) (.map (some l.g))
  | fn (f : Fn) {a c : List AV} {a' c' : List Value} (h : Rls E a a') (k : Rls E c c') : Rl E (.fn f a c) (.func f a'.toArray c'.toArray)
  | nilf : Rl E .nilf .nilFunc
  | ifc (t : TypeId) {v : AV} {v' : Value} (h : Rl E v v') : Rl E (.ifc t v) (.iface t v')
  | nili : Rl E .nili .nilIface
  | agg {l : List AV} {l' : List Value} (h : Rls E l l') : Rl E (.agg l) (.agg l'.toArray)
  | tup {l : List AV} {l' : List Value} (h : Rls E l l') : Rl E (.tup l) (.tuple l'.toArray)
  | any {v : Value} (h : v.oneCell' = true) : Rl E .any v
  | bad (v : Value) : Rl E .bad v
  | sym {c b : Nat} {v : Value} (h : E.val c b = some v) (hc : c ≤ 9) (ho : v.oneCell' = true) : Rl E (.sym c b) v
  | anyi {k : IntKind} {n : Int} (h : k.wrap n = n) : Rl E (.anyi k) (.int k n)
  | anyb (b : Bool) : Rl E .anyb (.bool b)
  | upto {g : Bool} {n m : Nat} (h : m ≤ E.ub g n) (hn : n ≤ 1000000000000) : Rl E (.upto g n) (.int .i64 m)
  | slu {b sz n m c : Nat} {g : Bool} {l : Loc} (h : E b = some l) (hm : m ≤ E.ub g n) (hc : m ≤ c) (hn : c * sz + l.sh ≤ l.n) (hv : m * sz ≤ l.sz) : Rl E (.slu b sz g n) (.slice (some ⟨l.g, l.sh, none⟩) m c)
  | slue (b sz : Nat) (g : Bool) (n : Nat) (a : Option Addr) : Rl E (.slu b sz g n) (.slice a 0 0)
  | sl0 (a : Option Addr) : Rl E .sl0 (.slice a 0 0)
  | yld {b : Nat} {l : Loc} (h : E b = some l) : Rl E (.yld b) (.func (.yield l.g) #[] #[])
inductive Rls (E : Env) : List AV → List Value → Prop
  | nil : Rls E [] []
  | cons {a : AV} {v : Value} {r : List AV} {q : List Value} (h : Rl E a v) (k : Rls E r q) : Rls E (a :: r) (v :: q)
end
mutual
theorem Rl.mono {E E' : Env} (hE : Env.le E E') : ∀ {a : AV} {v : Value}, Rl E a v → Rl E' a v
  | _, _, .bool b => .bool b
  | _, _, .int k n => .int k n
  | _, _, .str s => .str s
  | _, _, .nilp => .nilp
  | _, _, .ptr off h => .ptr off (hE.1 _ _ h)
  | _, _, .nils => .nils
  | _, _, .sl off len cap h hl => .sl off len cap (hE.1 _ _ h) hl
  | _, _, .slo off len c h hc hl => .slo off len c (hE.1 _ _ h) hc hl
  | _, _, .slz a c => .slz a c
  | _, _, .nilm => .nilm
  | _, _, .mp h => .mp (hE.1 _ _ h)
  | _, _, .fn f h k => .fn f (Rls.mono hE h) (Rls.mono hE k)
  | _, _, .nilf => .nilf
  | _, _, .ifc t h => .ifc t (Rl.mono hE h)
  | _, _, .nili => .nili
  | _, _, .agg h => .agg (Rls.mono hE h)
  | _, _, .tup h => .tup (Rls.mono hE h)
  | _, _, .any h => .any h
  | _, _, .bad v => .bad v
  | _, _, .sym h hc ho => .sym (by rw [hE.2.1]; exact h) hc ho
  | _, _, .anyi h => .anyi h
  | _, _, .anyb b => .anyb b
  | _, _, .upto h hn => .upto (by rw [hE.ub]; exact h) hn
  | _, _, .slu h hm hc hn hv => .slu (hE.1 _ _ h) (by rw [hE.ub]; exact hm) hc hn hv
  | _, _, .slue b sz g n a => .slue b sz g n a
  | _, _, .sl0 a => .sl0 a
  | _, _, .yld h => .yld (hE.1 _ _ h)
theorem Rls.mono {E E' : Env} (hE : Env.le E E') : ∀ {a : List AV} {v : List Value}, Rls E a v → Rls E' a v
  | _, _, .nil => .nil
  | _, _, .cons h k => .cons (Rl.mono hE h) (Rls.mono hE k)
end
theorem Rls.length {E : Env} : ∀ {a : List AV} {v : List Value}, Rls E a v → v.length = a.length
  | _, _, .nil => rfl
  | _, _, .cons h k => by simp [Rls.length k]
theorem Rls.at {E : Env} : ∀ {a : List AV} {v : List Value}, Rls E a v → ∀ (i : Nat) (x : AV), a[i]? = some x → ∃ y, v[i]? = some y ∧ Rl E x y
  | _, _, .nil, i, x, h => by simp at h
  | _, _, .cons h k, 0, x, e => by simp at e; subst e; exact ⟨_, rfl, h⟩
  | _, _, .cons h k, i + 1, x, e => by simpa using Rls.at k i x (by simpa using e)
theorem Rls.of_at {E : Env} : ∀ (a : List AV) (v : List Value), v.length = a.length → (∀ (i : Nat) (x : AV), a[i]? = some x → ∃ y, v[i]? = some y ∧ Rl E x y) → Rls E a v
  | [], [], _, _ => .nil
  | [], _ :: _, h, _ => by simp at h
  | _ :: _, [], h, _ => by simp at h
  | a :: r, v :: q, h, k => by
    obtain ⟨y, hy, hr⟩ := k 0 a rfl
    simp at hy; subst hy
    exact .cons hr (Rls.of_at r q (by simpa using h) fun i x e => by simpa using k (i + 1) x (by simpa using e))
theorem Rls.append {E : Env} : ∀ {a b : List AV} {v u : List Value}, Rls E a v → Rls E b u → Rls E (a ++ b) (v ++ u)
  | _, _, _, _, .nil, k => k
  | _, _, _, _, .cons h k, k' => .cons h (Rls.append k k')
theorem Rls.take {E : Env} : ∀ {a : List AV} {v : List Value} (n : Nat), Rls E a v → Rls E (a.take n) (v.take n)
  | _, _, 0, _ => by simpa using Rls.nil
  | _, _, n + 1, .nil => by simpa using Rls.nil
  | _, _, n + 1, .cons h k => by simpa using Rls.cons h (Rls.take n k)
theorem Rls.drop {E : Env} : ∀ {a : List AV} {v : List Value} (n : Nat), Rls E a v → Rls E (a.drop n) (v.drop n)
  | _, _, 0, h => by simpa using h
  | _, _, n + 1, .nil => by simpa using Rls.nil
  | _, _, n + 1, .cons h k => by simpa using Rls.drop n k
theorem Rls.cut {E : Env} {a : List AV} {v : List Value} (o n : Nat) (h : Rls E a v) : Rls E (cutL o n a) ((v.drop o).take n) := by
  rw [cutL_eq]; exact (h.drop o).take n
theorem Rls.splice {E : Env} {a b : List AV} {v u : List Value} (o : Nat) (h : Rls E a v) (k : Rls E b u) (hl : o + b.length ≤ a.length) : Rls E (splice a o b) (v.take o ++ u ++ v.drop (o + u.length)) := by
  rw [splice_eq _ _ _ hl]
  have := k.length
  rw [this]
  exact ((h.take o).append k).append (h.drop _)
theorem Rl.one {E : Env} {a : AV} {v : Value} (h : Rl E a v) (ha : a.one = true) : v.oneCell' = true := by
  cases h <;> first | rfl | (simp [AV.one] at ha; done) | assumption
theorem allOne_eq : ∀ l : List AV, allOne l = true ↔ ∀ a ∈ l, a.one = true
  | [] => by simp [allOne]
  | a :: r => by
    simp only [allOne, List.mem_cons, forall_eq_or_imp]
    cases h : a.one
    · simp
    · simp [allOne_eq r]
theorem Rls.one {E : Env} : ∀ {a : List AV} {v : List Value}, Rls E a v → allOne a = true → ∀ x ∈ v, x.oneCell' = true
  | _, _, .nil, _, x, hx => by simp at hx
  | _, _, .cons h k, ho, x, hx => by
    rw [allOne_eq] at ho
    rcases List.mem_cons.1 hx with rfl | hx
    · exact h.one (ho _ (by simp))
    · exact Rls.one k ((allOne_eq _).2 fun a ha => ho a (by simp [ha])) x hx
theorem allOne_append {a b : List AV} (h : allOne a = true) (k : allOne b = true) : allOne (a ++ b) = true := by
  rw [allOne_eq] at *
  intro x hx
  rcases List.mem_append.1 hx with hx | hx
  · exact h x hx
  · exact k x hx
theorem allOne_cut {a : List AV} (o n : Nat) (h : allOne a = true) : allOne (cutL o n a) = true := by
  rw [allOne_eq] at *
  rw [cutL_eq]
  intro x hx
  exact h x (List.mem_of_mem_drop (List.mem_of_mem_take hx))
theorem allOne_splice {a b : List AV} (o : Nat) (h : allOne a = true) (k : allOne b = true) (hl : o + b.length ≤ a.length) : allOne (splice a o b) = true := by
  rw [splice_eq _ _ _ hl]
  rw [allOne_eq] at *
  intro x hx
  simp only [List.mem_append] at hx
  rcases hx with (hx | hx) | hx
  · exact h x (List.mem_of_mem_take hx)
  · exact k x hx
  · exact h x (List.mem_of_mem_drop hx)
theorem Rl.cells {E : Env} {a : AV} {v : Value} (h : Rl E a v) {l : List AV} (hl : a.cells = some l) : Rls E l v.cells.toList := by
  cases h with
  | agg h => simp [AV.cells] at hl; subst hl; simpa [Value.cells] using h
  | tup h => simp [AV.cells] at hl
  | bad v => simp [AV.cells] at hl
  | any h => simp [AV.cells] at hl; subst hl; cases v <;> first | (simp [Value.oneCell'] at h; done) | exact .cons (.any rfl) .nil
  | sym h hc ho => simp [AV.cells] at hl; subst hl; cases v <;> first | (simp [Value.oneCell'] at ho; done) | exact .cons (.sym h hc rfl) .nil
  | _ => simp [AV.cells] at hl; subst hl; (refine .cons ?_ .nil; first | exact .bool _ | exact .int _ _ | exact .str _ | exact .nilp | (apply Rl.anyi; assumption) | exact .anyb _ | (apply Rl.upto <;> assumption) | exact .sl0 _ | (apply Rl.yld; assumption) | exact .slue _ _ _ _ _ | (apply Rl.slu <;> assumption) | (apply Rl.ptr; assumption) | exact .nils | (apply Rl.sl <;> assumption) | (apply Rl.slo <;> assumption) | exact .slz _ _ | exact .nilm | (apply Rl.mp; assumption) | (apply Rl.fn <;> assumption) | exact .nilf | (apply Rl.ifc; assumption) | exact .nili)
theorem absS_rl (E : Env) (v : Value) : Rl E (absS v) v := by
  unfold absS
  split <;> first | exact .bool _ | exact .int _ _ | exact .str _ | exact .nilp | exact .nils | exact .nilm | exact .nilf | exact .nili | exact .bad _ | exact .fn _ .nil .nil
theorem absS_rls (E : Env) : ∀ l : List Value, Rls E (l.map absS) l
  | [] => .nil
  | v :: r => .cons (absS_rl E v) (absS_rls E r)
theorem absV_rl (E : Env) (v : Value) : Rl E (absV v) v := by
  unfold absV
  split
  · rename_i cs
    have := Rl.agg (absS_rls E cs.toList)
    simpa using this
  · exact .tup .nil
  · exact absS_rl E v
end Go.Proofs.YtkmocipdekogkaaGreatDoor
end
section
namespace Go.Proofs.YtkmocipdekogkaaGreatDoor
set_option linter.unusedVariables false
set_option linter.unusedSimpArgs false

/-- An entry of a map, and the model's. -/
def Ent (E : Env) (a : AV × AV × Nat) (e : MapEntry) : Prop := Rl E a.1 e.key ∧ Rl E a.2.1 e.val ∧ e.born = a.2.2
inductive Ents (E : Env) : List (AV × AV × Nat) → List MapEntry → Prop
  | nil : Ents E [] []
  | cons {a : AV × AV × Nat} {e : MapEntry} {r : List (AV × AV × Nat)} {q : List MapEntry} (h : Ent E a e) (k : Ents E r q) : Ents E (a :: r) (e :: q)
theorem Ents.mono {E E' : Env} (hE : Env.le E E') : ∀ {a : List (AV × AV × Nat)} {e : List MapEntry}, Ents E a e → Ents E' a e
  | _, _, .nil => .nil
  | _, _, .cons h k => .cons ⟨h.1.mono hE, h.2.1.mono hE, h.2.2⟩ (Ents.mono hE k)
/-- A block of bytes that are a span's. -/
def EncOk (E : Env) (l : Loc) (w : World) (k : Nat) (cs : List AV) : Prop := ∃ (row : Array Value) (ty : TypeId) (c : Nat) (vs : List Value) (bs : List Nat), w.heap[l.g]? = some (.cells row ty (0, 0)) ∧ E.val 9 k = some (.slice (some ⟨l.g, 0, none⟩) bs.length c) ∧ Rls E cs vs ∧ spanB vs = some bs ∧ bs.length ≤ c ∧ row.toList.take bs.length = bs.map fun b : Nat => Value.int .u8 b
/-- An object of the machine stands in the model's memory. -/
def ROk (E : Env) (l : Loc) (w : World) : AO → Prop
  | .row cs sz => l.sz = sz ∧ allOne cs = true ∧ ∃ (row : Array Value) (ty : TypeId) (pre vs post : List Value),
      w.heap[l.g]? = some (.cells row ty (0, 0)) ∧ row.toList = pre ++ vs ++ post ∧ pre.length = l.sh ∧ Rls E cs vs ∧ row.size = l.n
  | .map es clock => ∃ es' : Array MapEntry, w.heap[l.g]? = some (.map es' clock) ∧ Ents E es es'.toList
  | .iter m since seen last => l.sh = 0 ∧ ∃ m' : Option Nat, w.heap[l.g]? = some (.mapIter m' since seen.toArray last) ∧
      (match m with | none => m' = none | some b => ∃ lb, E b = some lb ∧ m' = some lb.g)
  | .sit s pos => l.sh = 0 ∧ w.heap[l.g]? = some (.stringIter s pos)
  | .junk u sz => ∃ (row : Array Value) (ty : TypeId), w.heap[l.g]? = some (.cells row ty (0, 0)) ∧ row.size = l.n ∧
      ∀ j, j < l.sz → ∃ v, row[l.sh + j]? = some v ∧ v.oneCell' = true ∧ (u = true → ∃ n : Nat, v = .int .u8 n ∧ n < 256)
  | .loop A B ps nt t => ∃ r : Loop, w.heap[l.g]? = some (.loop r) ∧ r.state = .ready ∧ r.pending = none ∧ r.assign = A ∧ r.body = B ∧ r.params.toList = ps ∧ nt ≤ r.tmps.size ∧ ∀ p ∈ t, Rl E p.2 (r.tmps.getD p.1 undef)
  | .enc k cs => EncOk E l w k cs
theorem ROk.mono {E E' : Env} (hE : Env.le E E') {l : Loc} {w : World} {o : AO} (h : ROk E l w o) : ROk E' l w o := by
  cases o with
  | row cs sz => obtain ⟨h1, h2, row, ty, pre, vs, post, h3, h4, h5, h6, h7⟩ := h; exact ⟨h1, h2, row, ty, pre, vs, post, h3, h4, h5, h6.mono hE, h7⟩
  | map es clock => obtain ⟨es', h1, h2⟩ := h; exact ⟨es', h1, h2.mono hE⟩
  | iter m since seen last =>
    obtain ⟨h0, m', h1, h2⟩ := h
    refine ⟨h0, m', h1, ?_⟩
    cases m with
    | none => exact h2
    | some b => obtain ⟨lb, h3, h4⟩ := h2; exact ⟨lb, hE.1 _ _ h3, h4⟩
  | sit s pos => exact h
  | junk u sz => exact h
  | loop A B ps nt t => obtain ⟨r, h1, h2, h3, h4, h5, h6, h7, h8⟩ := h; exact ⟨r, h1, h2, h3, h4, h5, h6, h7, fun p hp => (h8 p hp).mono hE⟩
  | enc k cs => obtain ⟨row, ty, c, vs, bs, h1, h2, h3, h4⟩ := h; exact ⟨row, ty, c, vs, bs, h1, by rw [hE.2.1]; exact h2, h3.mono hE, h4⟩
theorem ROk.congr {E : Env} {l : Loc} {w w' : World} {o : AO} (he : w'.heap[l.g]? = w.heap[l.g]?) (h : ROk E l w o) : ROk E l w' o := by
  cases o with
  | row cs sz => obtain ⟨h1, h2, row, ty, pre, vs, post, h3, h4⟩ := h; exact ⟨h1, h2, row, ty, pre, vs, post, by rw [he]; exact h3, h4⟩
  | map es clock => obtain ⟨es', h1, h2⟩ := h; exact ⟨es', by rw [he]; exact h1, h2⟩
  | iter m since seen last => obtain ⟨h0, m', h1, h2⟩ := h; exact ⟨h0, m', by rw [he]; exact h1, h2⟩
  | sit s pos => exact ⟨h.1, by rw [he]; exact h.2⟩
  | junk u sz => obtain ⟨row, ty, h1, h2⟩ := h; exact ⟨row, ty, by rw [he]; exact h1, h2⟩
  | loop A B ps nt t => obtain ⟨r, h1, h2⟩ := h; exact ⟨r, by rw [he]; exact h1, h2⟩
  | enc k cs => obtain ⟨row, ty, c, vs, bs, h1, h2⟩ := h; exact ⟨row, ty, c, vs, bs, by rw [he]; exact h1, h2⟩
theorem ROk.lt {E : Env} {l : Loc} {w : World} {o : AO} (h : ROk E l w o) : l.g < w.heap.size := by
  have key : ∀ x, w.heap[l.g]? = some x → l.g < w.heap.size := fun x hx => by
    rcases Nat.lt_or_ge l.g w.heap.size with h | h
    · exact h
    · simp [Array.getElem?_eq_none h] at hx
  cases o with
  | row cs sz => obtain ⟨h1, h2, row, ty, pre, vs, post, h3, h4⟩ := h; exact key _ h3
  | map es clock => obtain ⟨es', h1, h2⟩ := h; exact key _ h1
  | iter m since seen last => obtain ⟨h0, m', h1, h2⟩ := h; exact key _ h1
  | sit s pos => exact key _ h.2
  | junk u sz => obtain ⟨row, ty, h1, h2⟩ := h; exact key _ h1
  | loop A B ps nt t => obtain ⟨r, h1, h2⟩ := h; exact key _ h1
  | enc k cs => obtain ⟨row, ty, c, vs, bs, h1, h2⟩ := h; exact key _ h1

/-- The machine's memory stands in the model's. -/
structure Rel (E : Env) (s : St) (w : World) : Prop where
  obj : ∀ b o l, s.h.get b = some o → E b = some l → ROk E l w o
  inj : ∀ b c o o' l l', s.h.get b = some o → s.h.get c = some o' → E b = some l → E c = some l' → l.g = l'.g → b = c
  facts : Facts E
theorem Rel.at {E : Env} {s : St} {w : World} (R : Rel E s w) {b : Nat} {o : AO} {l : Loc} (hE : E b = some l) (h : s.h.get b = some o) : ∃ l', E b = some l' ∧ ROk E l' w o := ⟨l, hE, R.obj b o l h hE⟩
def Fresh (E : Env) (s : St) : Prop := ∀ b, s.nx ≤ b → E b = none
/-- What a step of the machine keeps. -/
structure Step (E : Env) (s : St) (w : World) (E' : Env) (s' : St) (w' : World) : Prop where
  le : Env.le E E'
  size : w.heap.size ≤ w'.heap.size
  tape : w'.tape = w.tape
  os : w'.os = w.os
  output : w'.output = w.output
  frame : ∀ k, k < w.heap.size → (∀ b o l, s.h.get b = some o → E b = some l → l.g ≠ k) → w'.heap[k]? = w.heap[k]?
  own : ∀ b o l, s'.h.get b = some o → E' b = some l → w.heap.size ≤ l.g ∨ ∃ c o' l', s.h.get c = some o' ∧ E c = some l' ∧ l'.g = l.g
  nx : s.nx ≤ s'.nx
  old : ∀ c, c < s.nx → E c = none → E' c = none
theorem Step.refl (E : Env) (s : St) (w : World) : Step E s w E s w :=
  ⟨.refl E, Nat.le_refl _, rfl, rfl, rfl, fun _ _ _ => rfl, fun b o l h e => .inr ⟨b, o, l, h, e, rfl⟩, Nat.le_refl _, fun _ _ h => h⟩
theorem Step.trans {E E' E'' : Env} {s s' s'' : St} {w w' w'' : World} (h : Step E s w E' s' w') (k : Step E' s' w' E'' s'' w'') : Step E s w E'' s'' w'' where
  le := h.le.trans k.le
  size := Nat.le_trans h.size k.size
  tape := k.tape.trans h.tape
  os := k.os.trans h.os
  output := k.output.trans h.output
  frame := fun i hi hn => by
    rw [k.frame i (Nat.lt_of_lt_of_le hi h.size) (fun b o l hb he hg => ?_), h.frame i hi hn]
    rcases h.own b o l hb he with hge | ⟨c, o', l', hc, hE, hg'⟩
    · omega
    · exact hn c o' l' hc hE (hg'.trans hg)
  own := fun b o l hb he => by
    rcases k.own b o l hb he with hge | ⟨c, o', l', hc, hE, hg'⟩
    · exact .inl (Nat.le_trans h.size hge)
    · rcases h.own c o' l' hc hE with hge | ⟨d, o2, l2, hd, hE2, hg2⟩
      · exact .inl (by omega)
      · exact .inr ⟨d, o2, l2, hd, hE2, hg2.trans hg'⟩
  nx := Nat.le_trans h.nx k.nx
  old := fun c hc hn => k.old c (Nat.lt_of_lt_of_le hc h.nx) (h.old c hc hn)
/-- A draw. -/
theorem Rel.drew {E : Env} {s : St} {w : World} (h : Rel E s w) : Rel E s w.drew := ⟨h.obj, h.inj, h.facts⟩
theorem Step.drew (E : Env) (s : St) (w : World) : Step E s w E s w.drew :=
  ⟨.refl E, Nat.le_refl _, rfl, rfl, rfl, fun _ _ _ => rfl, fun b o l h e => .inr ⟨b, o, l, h, e, rfl⟩, Nat.le_refl _, fun _ _ h => h⟩

section
variable {E : Env} {s : St} {w : World}
theorem Rel.upd (R : Rel E s w) {b : Nat} {o o' : AO} {l : Loc} {w' : World} (hb : s.h.get b = some o) (hE : E b = some l)
    (hother : ∀ k, k ≠ l.g → w'.heap[k]? = w.heap[k]?) (hok : ROk E l w' o') : Rel E (s.setO b o') w' := by
  refine ⟨fun c oc lc hc hlc => ?_, fun c d oc od lc ld hc hd hEc hEd hg => ?_, R.facts⟩
  · simp only [St.setO, Tr.get_set] at hc
    by_cases hcb : c = b
    · subst hcb; simp at hc; subst hc; rw [hE] at hlc; cases hlc; exact hok
    · simp only [if_neg hcb] at hc
      have hr := R.obj c oc lc hc hlc
      refine hr.congr (hother _ fun hg => hcb ?_)
      exact R.inj c b oc o lc l hc hb hlc hE hg
  · simp only [St.setO, Tr.get_set] at hc hd
    have key : ∀ x ox, (if x = b then some o' else s.h.get x) = some ox → ∃ ox', s.h.get x = some ox' := fun x ox hx => by
      by_cases h : x = b
      · subst h; exact ⟨o, hb⟩
      · simp only [if_neg h] at hx; exact ⟨ox, hx⟩
    obtain ⟨oc', hc'⟩ := key c oc hc
    obtain ⟨od', hd'⟩ := key d od hd
    exact R.inj c d oc' od' lc ld hc' hd' hEc hEd hg
theorem Step.upd {b : Nat} {o o' : AO} {l : Loc} {w' : World} (hb : s.h.get b = some o) (hE : E b = some l)
    (hother : ∀ k, k ≠ l.g → w'.heap[k]? = w.heap[k]?) (hs : w'.heap.size = w.heap.size) (ht : w'.tape = w.tape) (ho : w'.os = w.os) (hp : w'.output = w.output) : Step E s w E (s.setO b o') w' where
  le := .refl E
  size := by omega
  tape := ht
  os := ho
  output := hp
  frame := fun k _ hn => hother k fun hk => hn b o l hb hE hk.symm
  own := fun c oc lc hc hEc => by
    simp only [St.setO, Tr.get_set] at hc
    by_cases hcb : c = b
    · subst hcb; exact .inr ⟨c, o, lc, hb, hEc, rfl⟩
    · simp only [if_neg hcb] at hc; exact .inr ⟨c, oc, lc, hc, hEc, rfl⟩
  nx := Nat.le_refl _
  old := fun _ _ h => h
def Env.set (E : Env) (b : Nat) (l : Loc) : Env := { at' := fun c => if c = b then some l else E c, val := E.val, base := E.base }
theorem Env.le_set {b : Nat} (l : Loc) (h : E b = none) : Env.le E (E.set b l) := ⟨fun c lc hc => by
  show (if c = b then some l else E c) = some lc
  split
  · subst_vars; rw [h] at hc; cases hc
  · exact hc, rfl, rfl⟩
theorem Env.set_same (b : Nat) (l : Loc) : E.set b l b = some l := by simp [Env.set]
theorem heap_alloc_old (w : World) (o : Obj) (k : Nat) (h : k ≠ w.heap.size) : (w.alloc o).heap[k]? = w.heap[k]? := by
  show (w.heap.push o)[k]? = _
  rw [Array.getElem?_push, if_neg (by omega)]
theorem heap_alloc_here (w : World) (o : Obj) : (w.alloc o).heap[w.heap.size]? = some o := by
  show (w.heap.push o)[w.heap.size]? = _
  rw [Array.getElem?_push, if_pos rfl]
theorem Rel.new (R : Rel E s w) (F : Fresh E s) {o : AO} {ob : Obj} {l : Loc} (hl : l.g = w.heap.size) (hok : ROk (E.set s.nx l) l (w.alloc ob) o) :
    Rel (E.set s.nx l) (s.new o) (w.alloc ob) ∧ Fresh (E.set s.nx l) (s.new o) ∧ Step E s w (E.set s.nx l) (s.new o) (w.alloc ob) := by
  have hle := Env.le_set (E := E) l (F s.nx (Nat.le_refl _))
  have hold : ∀ c lc, c ≠ s.nx → E.set s.nx l c = some lc → E c = some lc := fun c lc hc hEc => by
    simpa [Env.set, hc] using hEc
  refine ⟨⟨fun c oc lc hc hlc => ?_, fun c d oc od lc ld hc hd hEc hEd hg => ?_, R.facts.mono hle⟩, fun c hc => ?_, ?_⟩
  · simp only [St.new, Tr.get_set] at hc
    by_cases hcb : c = s.nx
    · subst hcb; simp at hc; subst hc; rw [Env.set_same] at hlc; cases hlc; exact hok
    · simp only [if_neg hcb] at hc
      have hr := R.obj c oc lc hc (hold _ _ hcb hlc)
      exact (hr.mono hle).congr (heap_alloc_old w ob _ (Nat.ne_of_lt hr.lt))
  · simp only [St.new, Tr.get_set] at hc hd
    by_cases hcb : c = s.nx
    · by_cases hdb : d = s.nx
      · exact hcb.trans hdb.symm
      · simp only [if_neg hdb] at hd
        subst hcb
        rw [Env.set_same] at hEc; cases hEc
        have := (R.obj d od ld hd (hold d ld hdb hEd)).lt; omega
    · simp only [if_neg hcb] at hc
      by_cases hdb : d = s.nx
      · subst hdb
        rw [Env.set_same] at hEd; cases hEd
        have := (R.obj c oc lc hc (hold c lc hcb hEc)).lt; omega
      · simp only [if_neg hdb] at hd
        exact R.inj c d oc od lc ld hc hd (hold _ _ hcb hEc) (hold _ _ hdb hEd) hg
  · simp only [St.new] at hc
    simp only [Env.set, if_neg (show ¬ c = s.nx by omega)]
    exact F c (by omega)
  · refine ⟨hle, by simp, rfl, rfl, rfl, fun k hk _ => heap_alloc_old w ob k (by omega), fun c oc lc hc hEc => ?_, Nat.le_succ _, fun c hc hn => by simp only [Env.set, if_neg (Nat.ne_of_lt hc)]; exact hn⟩
    simp only [St.new, Tr.get_set] at hc
    by_cases hcb : c = s.nx
    · subst hcb; rw [Env.set_same] at hEc; cases hEc; exact .inl (by omega)
    · simp only [if_neg hcb] at hc; exact .inr ⟨c, oc, lc, hc, hold _ _ hcb hEc, rfl⟩
end

/-- What an operation of the model gives, by the machine's. -/
def Gives (P : Program) (E : Env) (s : St) (w : World) (r : Sem Value) (v : AV) (s' : St) : Prop :=
  ∃ E' w' v', r.run P w = .ok v' w' ∧ Step E s w E' s' w' ∧ Rel E' s' w' ∧ Fresh E' s' ∧ Rl E' v v'
theorem Gives.ret {P : Program} {E : Env} {s : St} {w : World} {r : Sem Value} {v : AV} (R : Rel E s w) (F : Fresh E s) {v' : Value} (h : r.run P w = .ok v' w) (hv : Rl E v v') : Gives P E s w r v s :=
  ⟨E, w, v', h, .refl E s w, R, F, hv⟩

/-- The tables of types and functions are the program's. -/
structure TOk (P : Program) (T : Tab) : Prop where
  func : ∀ f fn, T.func f = some fn → P.funcs[f]? = some fn ∧ (fn.name == "runtime.NumGoroutine") = false ∧ ∀ c, fn.body = some c → codeOk (T.plan f) fn.ntmps c = true
  desc : ∀ t i, T.ti t = some i → P.underlying t = some i.desc
  mixed : P.follows .mixedOrders = true
  yf : T.func YF = none
  info : ∀ t i, T.ti t = some i → ∃ info, P.info? t = some info ∧ info.size = i.size ∧ info.bytes = i.bytes
  zero : ∀ t i, T.ti t = some i → ∃ info z, P.info? t = some info ∧ info.zero = some z ∧ i.zero = absV z ∧ (i.zero.cells.isSome = true → z.cells.size = i.size)
section
variable {P : Program} {T : Tab} {E : Env} {s : St} {w : World}
theorem tab_desc (hT : TOk P T) {t : Nat} {d : TypeDesc} (h : T.desc t = some d) : P.underlying t = some d := by
  unfold Tab.desc at h
  split at h
  · rename_i i hi; cases h; exact hT.desc t i hi
  · cases h
theorem tab_size (hT : TOk P T) {t : Nat} {i : TI} (h : T.ti t = some i) (w : World) : (sizeOf t).run P w = .ok i.size w := by
  obtain ⟨info, h1, h2, _⟩ := hT.info t i h
  simp [sizeOf, typeInfo, h1, h2]
theorem tab_isAgg (hT : TOk P T) {t : Nat} {i : TI} (h : T.ti t = some i) (w : World) : (isAgg t).run P w = .ok (isAggD i.desc) w := by
  unfold isAgg
  rw [Sem.run_bind, run_underlying (hT.desc t i h) w]
  cases i.desc <;> simp [isAggD]
theorem tab_zero (hT : TOk P T) {t : Nat} {i : TI} {l : List AV} (h : T.ti t = some i) (hz : i.zero.cells = some l) (w : World) (E : Env) : ∃ z, (zeroValue t).run P w = .ok z w ∧ Rl E i.zero z ∧ z.cells.size = i.size ∧ Rls E l z.cells.toList := by
  obtain ⟨info, z, h1, h2, h3, h4⟩ := hT.zero t i h
  have hr : Rl E i.zero z := by rw [h3]; exact absV_rl E z
  exact ⟨z, by simp [zeroValue, typeInfo, h1, h2], hr, h4 (by rw [hz]; rfl), hr.cells hz⟩
theorem tab_zeroV (hT : TOk P T) {t : Nat} {i : TI} (h : T.ti t = some i) (w : World) (E : Env) : ∃ z, (zeroValue t).run P w = .ok z w ∧ Rl E i.zero z := by
  obtain ⟨info, z, h1, h2, h3, h4⟩ := hT.zero t i h
  exact ⟨z, by simp [zeroValue, typeInfo, h1, h2], by rw [h3]; exact absV_rl E z⟩

theorem rowAt_eq {b : Nat} {cs : List AV} {sz : Nat} (h : s.rowAt b = some (cs, sz)) : s.h.get b = some (.row cs sz) := by
  unfold St.rowAt at h
  split at h
  · rename_i heq; cases h; exact heq
  · cases h
theorem row_cell {l : Loc} {cs : List AV} {sz j : Nat} {a : AV} (h : ROk E l w (.row cs sz)) (hj : cs[j]? = some a) : ∃ v, w.cell? ⟨l.g, l.sh + j, none⟩ = some v ∧ Rl E a v := by
  obtain ⟨h1, h2, row, ty, pre, vs, post, h3, h4, h5, h6, h7⟩ := h
  obtain ⟨v, hv, hr⟩ := h6.at j a hj
  refine ⟨v, ?_, hr⟩
  rw [cell_of_row w l.g (l.sh + j) row ty (0, 0) h3]
  have hlt : j < vs.length := by
    rcases Nat.lt_or_ge j vs.length with h | h
    · exact h
    · simp [List.getElem?_eq_none h] at hv
  rw [← Array.getElem?_toList, h4, List.append_assoc, List.getElem?_append_right (by omega), ← h5, Nat.add_sub_cancel_left, List.getElem?_append_left hlt, hv]
theorem row_vals {l : Loc} {cs : List AV} {sz : Nat} (h : ROk E l w (.row cs sz)) : ∃ vs, Rls E cs vs ∧ ∀ j v, vs[j]? = some v → w.cell? ⟨l.g, l.sh + j, none⟩ = some v := by
  obtain ⟨h1, h2, row, ty, pre, vs, post, h3, h4, h5, h6, h7⟩ := h
  refine ⟨vs, h6, fun j v hv => ?_⟩
  rw [cell_of_row w l.g (l.sh + j) row ty (0, 0) h3]
  have hlt : j < vs.length := by
    rcases Nat.lt_or_ge j vs.length with h | h
    · exact h
    · simp [List.getElem?_eq_none h] at hv
  rw [← Array.getElem?_toList, h4, List.append_assoc, List.getElem?_append_right (by omega), ← h5, Nat.add_sub_cancel_left, List.getElem?_append_left hlt, hv]
theorem addr_add (g o j : Nat) : (⟨g, o, none⟩ : Addr).add j = ⟨g, o + j, none⟩ := by unfold Addr.add; split <;> simp_all
/-- Cells are read. -/
theorem load_cut {l : Loc} {cs : List AV} {sz off n : Nat} (h : ROk E l w (.row cs sz)) (hn : off + n ≤ cs.length) : ∃ us, Rls E (cutL off n cs) us ∧ us.length = n ∧ (loadCells ⟨l.g, l.sh + off, none⟩ n).run P w = .ok us.toArray w := by
  obtain ⟨vs, hv, hc⟩ := row_vals h
  have hlen := hv.length
  have hl : ((vs.drop off).take n).length = n := by simp; omega
  refine ⟨(vs.drop off).take n, hv.cut off n, hl, ?_⟩
  have := run_loadCells_list (P := P) w ⟨l.g, l.sh + off, none⟩ ((vs.drop off).take n) (fun j v hj => by
    rw [addr_add, Nat.add_assoc]
    refine hc _ _ ?_
    have hjn : j < n := by
      rcases Nat.lt_or_ge j n with h | h
      · exact h
      · rw [List.getElem?_eq_none (by omega)] at hj; cases hj
    rw [List.getElem?_take_of_lt hjn, List.getElem?_drop] at hj
    exact hj)
  rw [hl] at this
  exact this
theorem load_val (hT : TOk P T) (R : Rel E s w) {t : Nat} {a v : AV} {a' : Value} (h : oLoad T s t a = some v) (ha : Rl E a a') : ∃ v', (Instr.loadAt t a').run P w = .ok v' w ∧ Rl E v v' := by
  unfold oLoad at h
  split at h
  · rename_i i b off hi
    split at h
    · rename_i cs sz hrow
      cases ha with
      | ptr _ hE =>
        obtain ⟨l', hl', hok⟩ := R.at hE (rowAt_eq hrow)
        rw [hE] at hl'; cases hl'
        cases hagg : isAggD i.desc
        · rw [hagg] at h
          simp only [cond_false, atL_eq] at h
          obtain ⟨v', hv', hr⟩ := row_cell hok h
          refine ⟨v', ?_, hr⟩
          simp [Instr.loadAt, Instr.sureAddr, loadVar, tab_isAgg hT hi, hagg, hv']
        · rw [hagg] at h
          simp only [cond_true] at h
          cases hle : Nat.ble (off + i.size) (lenL cs)
          · rw [hle] at h; simp at h
          · rw [hle] at h
            simp only [cond_true, Option.some.injEq] at h
            subst h
            rw [lenL_eq] at hle
            obtain ⟨us, hr, _, hld⟩ := load_cut (P := P) hok (Nat.le_of_ble_eq_true hle)
            refine ⟨.agg us.toArray, ?_, .agg hr⟩
            simp [Instr.loadAt, Instr.sureAddr, loadVar, tab_isAgg hT hi, hagg, tab_size hT hi, hld]
    · cases h
  · cases h
theorem g_load (hT : TOk P T) (R : Rel E s w) (F : Fresh E s) {t : Nat} {a v : AV} {a' : Value} (h : oLoad T s t a = some v) (ha : Rl E a a') : Gives P E s w (Instr.loadAt t a') v s := by
  obtain ⟨v', h1, h2⟩ := load_val hT R h ha
  exact Gives.ret R F h1 h2
/-- Cells are written. -/
theorem store_at (R : Rel E s w) {b off : Nat} {l : Loc} {us : List AV} {vs : List Value} {s' : St} (h : storeC s b off us = some s') (hE : E b = some l) (hu : Rls E us vs) :
    ∃ w', (storeCells ⟨l.g, l.sh + off, none⟩ vs).run P w = .ok () w' ∧ Step E s w E s' w' ∧ Rel E s' w' ∧ s'.nx = s.nx := by
  unfold storeC at h
  split at h
  · rename_i cs sz hrow
    cases hle : Nat.ble (off + lenL us) (lenL cs)
    · rw [hle] at h; simp at h
    rw [hle] at h
    simp only [cond_true] at h
    cases hone : allOne us
    · rw [hone] at h; simp at h
    rw [hone] at h
    simp only [cond_true, Option.some.injEq] at h
    subst h
    have hle' : off + us.length ≤ cs.length := by simpa [lenL_eq] using Nat.le_of_ble_eq_true hle
    have hget := rowAt_eq hrow
    obtain ⟨l', hl', hok⟩ := R.at hE hget
    rw [hE] at hl'; cases hl'
    obtain ⟨h1, h2, row, ty, pre, ys, post, h3, h4, h5, h6, h7⟩ := hok
    have hly := h6.length
    have hlv := hu.length
    have hsz : row.size = pre.length + ys.length + post.length := by rw [← Array.length_toList, h4]; simp; omega
    have hst := run_storeCells_at (P := P) l.g (l.sh + off) ty vs 0 row w h3 (by omega) (fun x hx => hu.one hone x hx)
    simp only [Nat.add_zero] at hst
    refine ⟨_, hst, ?_, ?_, rfl⟩
    · exact Step.upd hget hE (fun k hk => setRow_other w l.g k _ hk) (by simp) rfl rfl rfl
    · refine R.upd hget hE (fun k hk => setRow_other w l.g k _ hk) ?_
      refine ⟨h1, allOne_splice off h2 hone hle', _, ty, pre, ys.take off ++ vs ++ ys.drop (off + vs.length), post, setRow_heap w l.g row _ ty (0, 0) h3, ?_, h5, h6.splice off hu hle', ?_⟩
      · simp only [h4]
        rw [← h5]
        simp only [List.append_assoc]
        rw [List.take_append, List.drop_append]
        simp only [Nat.add_sub_cancel_left, List.take_append, List.drop_append]
        have e1 : off - ys.length = 0 := by omega
        have e2 : pre.length + off + vs.length - pre.length = off + vs.length := by omega
        have e3 : off + vs.length - ys.length = 0 := by omega
        have e4 : List.take (pre.length + off) pre = pre := List.take_of_length_le (by omega)
        have e5 : List.drop (pre.length + off + vs.length) pre = [] := List.drop_eq_nil_of_le (by omega)
        simp [e1, e2, e3, e4, e5]
      · simp only [List.size_toArray, List.length_append, List.length_take, List.length_drop, Array.length_toList]
        omega
  · cases h
theorem g_store (hT : TOk P T) (R : Rel E s w) (F : Fresh E s) {t : Nat} {a x : AV} {a' x' : Value} {s' : St} (h : oStore T s t a x = some s') (ha : Rl E a a') (hx : Rl E x x') :
    ∃ w', (Instr.storeAt t a' x').run P w = .ok () w' ∧ Step E s w E s' w' ∧ Rel E s' w' ∧ Fresh E s' := by
  unfold oStore at h
  split at h
  · rename_i i b off vs hi hcells
    cases ha with
    | ptr _ hE =>
      cases hlen : Nat.beq (lenL vs) i.size
      · rw [hlen] at h; simp at h
      · rw [hlen] at h
        simp only [cond_true] at h
        have hlen' : vs.length = i.size := by simpa [lenL_eq] using Nat.eq_of_beq_eq_true hlen
        have hc := hx.cells hcells
        obtain ⟨w', hrun, hstep, hrel, hnx⟩ := store_at (P := P) R h hE hc
        refine ⟨w', ?_, hstep, hrel, fun c hc => F c (by omega)⟩
        have hsz : x'.cells.size = i.size := by have := hc.length; simp at this; omega
        simp [Instr.storeAt, Instr.sureAddr, storeVar, tab_size hT hi, hsz, hrun]
  · cases h
/-- A new row. -/
theorem new_row (R : Rel E s w) (F : Fresh E s) {cs : List AV} {sz : Nat} (hone : allOne cs = true) {vs : List Value} (hv : Rls E cs vs) (rest : List Value) (t : TypeId) (row : Array Value) (hrow : row.toList = vs ++ rest) :
    Rel (E.set s.nx ⟨w.heap.size, 0, row.size, sz⟩) (s.new (.row cs sz)) (w.alloc (.cells row t)) ∧ Fresh (E.set s.nx ⟨w.heap.size, 0, row.size, sz⟩) (s.new (.row cs sz)) ∧
      Step E s w (E.set s.nx ⟨w.heap.size, 0, row.size, sz⟩) (s.new (.row cs sz)) (w.alloc (.cells row t)) := by
  refine R.new F rfl ⟨rfl, hone, row, t, [], vs, rest, heap_alloc_here w _, by simpa using hrow, rfl, hv.mono (Env.le_set _ (F s.nx (Nat.le_refl _))), rfl⟩
theorem newRow_eq {s s' : St} {cs : Option (List AV)} {sz : Nat} (h : newRow s cs sz = some s') : ∃ l, cs = some l ∧ allOne l = true ∧ s' = s.new (.row l sz) := by
  unfold newRow at h
  split at h
  · rename_i l
    cases ho : allOne l
    · rw [ho] at h; simp at h
    · rw [ho] at h; simp at h; exact ⟨l, rfl, ho, h.symm⟩
  · cases h
end
end Go.Proofs.YtkmocipdekogkaaGreatDoor
end
section
namespace Go.Proofs.YtkmocipdekogkaaGreatDoor
set_option linter.unusedVariables false
set_option linter.unusedSimpArgs false

theorem norm_eq (k : IntKind) (r : Nat) : norm k r = k.wrap (.ofNat r) := by
  cases k <;> simp only [norm] <;> first | rfl | skip
  unfold sel
  cases h : Nat.ble r 9223372036854775807
  · rfl
  · have := Nat.le_of_ble_eq_true h
    have e3 : (r : Int) % 18446744073709551616 = r := by omega
    have e4 : ¬ ((r : Int) ≥ 9223372036854775808) := by omega
    show (r : Int) = if (true && decide ((r : Int) % 18446744073709551616 ≥ 9223372036854775808)) = true then (r : Int) % 18446744073709551616 - 18446744073709551616 else (r : Int) % 18446744073709551616
    rw [e3]
    simp [e4]
theorem eqI_eq (a b : Int) : eqI a b = (a == b) := by
  unfold eqI
  split
  · rename_i m n
    cases h : Nat.beq m n
    · have : m ≠ n := fun e => by subst e; simp at h
      have h2 : ¬ ((Int.ofNat m) = Int.ofNat n) := fun e => this (Int.ofNat.inj e)
      simpa using h2
    · have := Nat.eq_of_beq_eq_true h
      subst this; simp
  · rw [Bool.eq_iff_iff]; simp
theorem sym_num {E : Env} (hφ : Facts E) {c b : Nat} {v : Value} (h : E.val c b = some v) (hc : c ≤ 4) : ∃ n : Nat, v = .int .u64 n ∧ n < 2 ^ 64 ∧ (c ≤ 2 → 0 < n) := by
  obtain ⟨k1, k2, k3, _⟩ := hφ.cls c b v h
  rcases Nat.lt_or_ge 2 c with h2 | h2
  · rcases Nat.lt_or_ge 3 c with h3 | h3
    · obtain ⟨n, rfl, h4⟩ := k3 (by omega); exact ⟨n, rfl, h4, by omega⟩
    · obtain ⟨n, rfl, h4⟩ := k2 (by omega)
      have : (2 : Nat) ^ 40 < 2 ^ 64 := by decide
      exact ⟨n, rfl, by omega, by omega⟩
  · obtain ⟨n, rfl, h4, h5⟩ := k1 h2; exact ⟨n, rfl, h5, fun _ => h4⟩
theorem sym_str {E : Env} (hφ : Facts E) {b : Nat} {v : Value} (h : E.val 5 b = some v) : ∃ u : ByteArray, v = .string u ∧ 1 ≤ u.size ∧ u.size ≤ 32 ∧ nameLoop u 33 0 = true := (hφ.cls 5 b v h).2.2.2.1 rfl
theorem sym_bool {E : Env} (hφ : Facts E) {b : Nat} {v : Value} (h : E.val 6 b = some v) : ∃ u, v = .bool u := (hφ.cls 6 b v h).2.2.2.2 rfl
theorem neC_ok {c i j : Nat} (h : neC c i j = true) : c ≤ 2 ∧ i ≤ 15 ∧ j ≤ 15 := by
  unfold neC at h
  cases h1 : Nat.ble c 2 <;> rw [h1] at h <;> simp only [cond_true, cond_false] at h
  case false => cases h
  cases h2 : Nat.ble i 15 <;> rw [h2] at h <;> simp only [cond_true, cond_false] at h
  case false => cases h
  exact ⟨Nat.le_of_ble_eq_true h1, Nat.le_of_ble_eq_true h2, Nat.le_of_ble_eq_true h⟩
/-- Two numbers of a class that have different names. -/
theorem sym_ne {E : Env} (hφ : Facts E) {c i j : Nat} {v v' : Value} (h : neC c i j = true) (hij : i ≠ j) (h1 : E.val c i = some v) (h2 : E.val c j = some v') : v ≠ v' := by
  obtain ⟨k1, k2, k3⟩ := neC_ok h
  rcases Nat.lt_trichotomy i j with q | q | q
  · exact hφ.ne c i j v v' k1 q k3 h1 h2
  · exact absurd q hij
  · exact fun e => hφ.ne c j i v' v k1 q k2 h2 h1 e.symm
theorem ordC_ok {c i j : Nat} (h : ordC c i j = true) : c ≤ 2 ∧ i ≤ 7 ∧ j ≤ 7 := by
  unfold ordC at h
  cases h1 : Nat.ble c 2 <;> rw [h1] at h <;> simp only [cond_true, cond_false] at h
  case false => cases h
  cases h2 : Nat.ble i 7 <;> rw [h2] at h <;> simp only [cond_true, cond_false] at h
  case false => cases h
  exact ⟨Nat.le_of_ble_eq_true h1, Nat.le_of_ble_eq_true h2, Nat.le_of_ble_eq_true h⟩
/-- Two numbers of a class. -/
theorem sym_two {E : Env} (hφ : Facts E) {c i j : Nat} {v v' : Value} (h : ordC c i j = true) (e1 : E.val c i = some v) (e2 : E.val c j = some v') : ∃ m n : Nat, v = .int .u64 m ∧ v' = .int .u64 n ∧ (m < n ↔ i < j) ∧ (m = n ↔ i = j) := by
  obtain ⟨h1, h2, h3⟩ := ordC_ok h
  obtain ⟨m, rfl, _⟩ := sym_num hφ e1 (by omega)
  obtain ⟨n, rfl, _⟩ := sym_num hφ e2 (by omega)
  refine ⟨m, n, rfl, rfl, ?_⟩
  have lt : ∀ i j m n : Nat, i < j → j ≤ 7 → E.val c i = some (.int .u64 m) → E.val c j = some (.int .u64 n) → m < n := by
    intro i j m n hij hj hm hn
    have := hφ.ord c i j _ _ h1 hij hj hm hn
    simpa [natV] using this
  rcases Nat.lt_trichotomy i j with hij | hij | hij
  · have := lt i j m n hij h3 e1 e2; omega
  · subst hij
    have : m = n := by rw [e1] at e2; injection e2 with e2; injection e2 with _ e2; exact Int.ofNat.inj e2
    omega
  · have := lt j i n m hij h2 e2 e1; omega
/-- What a value's kind says. -/
def kdV : Kd → Value → Prop
  | .b, v => ∃ p, v = .bool p
  | .i, v => ∃ k n, v = .int k n
  | .s, v => ∃ p, v = .string p
theorem isKd_ok {E : Env} (hφ : Facts E) {k : Kd} {x : AV} {x' : Value} (h : isKd k x = true) (hx : Rl E x x') : kdV k x' := by
  unfold isKd at h
  split at h
  · cases hx; exact ⟨_, rfl⟩
  · cases hx; exact ⟨_, _, rfl⟩
  · cases hx; exact ⟨_, rfl⟩
  · cases hx with
    | sym hv hc ho => obtain ⟨n, rfl, _⟩ := sym_num hφ hv (Nat.le_of_ble_eq_true h); exact ⟨_, _, rfl⟩
  · cases hx with
    | sym hv hc ho => have := Nat.eq_of_beq_eq_true h; subst this; obtain ⟨n, rfl, _⟩ := sym_str hφ hv; exact ⟨_, rfl⟩
  · cases hx with
    | sym hv hc ho => have := Nat.eq_of_beq_eq_true h; subst this; obtain ⟨n, rfl⟩ := sym_bool hφ hv; exact ⟨_, rfl⟩
  · cases h
theorem isKu_ok {E : Env} (hφ : Facts E) {k : Kd} {x : AV} {x' : Value} (h : isKu k x = true) (hx : Rl E x x') : kdV k x' := by
  unfold isKu at h
  split at h
  · cases hx; exact ⟨_, rfl⟩
  · cases hx; exact ⟨_, _, rfl⟩
  · cases hx; exact ⟨_, _, rfl⟩
  · exact isKd_ok hφ h hx
theorem kdOk_ok {k : Kd} {x y : AV} (h : kdOk k x y = true) : isKd k x = true ∧ isKd k y = true := by
  unfold kdOk at h
  cases h1 : isKd k x <;> rw [h1] at h <;> simp only [cond_true, cond_false] at h
  case false => cases h
  exact ⟨rfl, h⟩
theorem numK_ok {E : Env} (hφ : Facts E) {k : IntKind} {x : AV} {x' : Value} (h : numK x = some k) (hx : Rl E x x') : ∃ n, x' = .int k n := by
  unfold numK at h
  split at h
  · cases h; cases hx; exact ⟨_, rfl⟩
  · rename_i c b
    cases hc : Nat.ble c 4 <;> rw [hc] at h <;> simp only [cond_true, cond_false] at h
    case false => cases h
    cases h
    cases hx with
    | sym hv hc2 ho => obtain ⟨n, rfl, _⟩ := sym_num hφ hv (Nat.le_of_ble_eq_true hc); exact ⟨_, rfl⟩
  · cases h; cases hx; exact ⟨_, rfl⟩
  · cases h; cases hx; exact ⟨_, rfl⟩
  · cases h
theorem wrap_cases (k : IntKind) (n : Int) : (k.signed = false ∧ k.min = 0 ∧ k.wrap n = n % (k.max + 1) ∧ 0 < k.max) ∨ (k.signed = true ∧ k.min = - (k.max + 1) ∧ 0 < k.max ∧ ((n % (2 * (k.max + 1)) > k.max ∧ k.wrap n = n % (2 * (k.max + 1)) - 2 * (k.max + 1)) ∨ (n % (2 * (k.max + 1)) ≤ k.max ∧ k.wrap n = n % (2 * (k.max + 1))))) := by
  cases k <;> simp [IntKind.wrap, IntKind.signed, IntKind.bits, IntKind.min, IntKind.max] <;> omega
theorem wrap_iff (k : IntKind) (n : Int) : k.wrap n = n ↔ k.min ≤ n ∧ n ≤ k.max := by
  rcases wrap_cases k n with ⟨_, h1, h2, h3⟩ | ⟨_, h1, h3, h2⟩
  · rw [h1, h2]
    have e1 := Int.emod_nonneg n (show k.max + 1 ≠ 0 by omega)
    have e2 := Int.emod_lt_of_pos n (show 0 < k.max + 1 by omega)
    constructor
    · intro h; omega
    · intro h; exact Int.emod_eq_of_lt h.1 (by omega)
  · have e1 := Int.emod_nonneg n (show 2 * (k.max + 1) ≠ 0 by omega)
    have e2 := Int.emod_lt_of_pos n (show 0 < 2 * (k.max + 1) by omega)
    constructor
    · intro h; rcases h2 with ⟨h4, h5⟩ | ⟨h4, h5⟩ <;> omega
    · intro h
      rcases Int.lt_or_le n 0 with hn | hn
      · have : n % (2 * (k.max + 1)) = n + 2 * (k.max + 1) := by
          rw [← Int.add_emod_right]
          exact Int.emod_eq_of_lt (by omega) (by omega)
        rcases h2 with ⟨h4, h5⟩ | ⟨h4, h5⟩ <;> omega
      · have : n % (2 * (k.max + 1)) = n := Int.emod_eq_of_lt hn (by omega)
        rcases h2 with ⟨h4, h5⟩ | ⟨h4, h5⟩ <;> omega
theorem wrap_in (k : IntKind) (n : Int) : k.min ≤ k.wrap n ∧ k.wrap n ≤ k.max := by
  rcases wrap_cases k n with ⟨_, h1, h2, h3⟩ | ⟨_, h1, h3, h2⟩
  · have e1 := Int.emod_nonneg n (show k.max + 1 ≠ 0 by omega)
    have e2 := Int.emod_lt_of_pos n (show 0 < k.max + 1 by omega)
    omega
  · have e1 := Int.emod_nonneg n (show 2 * (k.max + 1) ≠ 0 by omega)
    have e2 := Int.emod_lt_of_pos n (show 0 < 2 * (k.max + 1) by omega)
    rcases h2 with ⟨h4, h5⟩ | ⟨h4, h5⟩ <;> omega
theorem wrap_wrap (k : IntKind) (n : Int) : k.wrap (k.wrap n) = k.wrap n := (wrap_iff k _).2 (wrap_in k n)
theorem min_le0 (k : IntKind) : k.min ≤ 0 ∧ 0 ≤ k.max := by cases k <;> decide
theorem wrap_shr (k : IntKind) (n : Int) (m : Nat) (h : k.wrap n = n) : k.wrap (n.fdiv (2 ^ m)) = n.fdiv (2 ^ m) := by
  obtain ⟨h1, h2⟩ := (wrap_iff k n).1 h
  obtain ⟨h3, h4⟩ := min_le0 k
  have hp : (0 : Int) < 2 ^ m := Int.pow_pos (by decide)
  rw [Int.fdiv_eq_ediv_of_nonneg _ (by omega)]
  refine (wrap_iff k _).2 ⟨?_, ?_⟩
  · have : k.min * (2 ^ m) ≤ n := by
      have : k.min * (2 ^ m) ≤ k.min * 1 := Int.mul_le_mul_of_nonpos_left h3 (by omega)
      omega
    exact (Int.le_ediv_iff_mul_le hp).2 this
  · rcases Int.lt_or_le n 0 with hn | hn
    · have : n / 2 ^ m < 0 := Int.ediv_neg_of_neg_of_pos hn hp
      omega
    · have : n / 2 ^ m ≤ n := Int.ediv_le_self _ hn
      omega
theorem kindEq_eq {a b : IntKind} (h : kindEq a b = true) : a = b := by cases a <;> cases b <;> first | rfl | (simp [kindEq] at h)
theorem bits_eq (k : IntKind) : bitsOf k = k.bits := by cases k <;> rfl
theorem pw_eq (k : IntKind) : pw k = 2 ^ k.bits := by cases k <;> rfl
theorem minN_eq (a b : Nat) : minN a b = min a b := by
  unfold minN sel
  cases h : Nat.ble a b
  · have : ¬ a ≤ b := fun e => by rw [Nat.ble_eq_true_of_le e] at h; cases h
    show b = min a b; omega
  · have := Nat.le_of_ble_eq_true h
    show a = min a b; omega
theorem ofInt_nat (n m : Nat) : BitVec.ofInt n (Int.ofNat m) = BitVec.ofNat n m := by
  show BitVec.ofInt n (m : Int) = _
  exact BitVec.ofInt_natCast n m

section
variable {P : Program} {w : World} {E : Env}
theorem i_bits (f : Nat → Nat → Nat) (g : {n : Nat} → BitVec n → BitVec n → BitVec n) (hfg : ∀ n (a b : BitVec n), (g a b).toNat = f a.toNat b.toNat) (hm : ∀ m n b : Nat, f m n % 2 ^ b = f (m % 2 ^ b) (n % 2 ^ b)) (k : IntKind) (m n : Nat) :
    k.wrap (Int.ofNat (g (BitVec.ofInt k.bits (Int.ofNat m)) (BitVec.ofInt k.bits (Int.ofNat n))).toNat) = norm k (Nat.mod (f m n) (pw k)) := by
  rw [norm_eq, ofInt_nat, ofInt_nat, hfg, BitVec.toNat_ofNat, BitVec.toNat_ofNat, ← hm, pw_eq]
  rfl
theorem intF_ok (op : BinOp) (t : Nat) (k l : IntKind) (a b : Int) (v : AV) (hk : k = l ∨ isShift op = true) (h : intF op k a b = some v) :
    ∃ v', (binOp op t (.int k a) (.int l b)).run P w = .ok v' w ∧ Rl E v v' := by
  have hlt : ∀ x y : Int, ∀ v, iLss k x y = some v → v = .bool (decide (x < y)) := by
    intro x y v hv
    simp only [iLss] at hv
    split at hv
    · rename_i m n
      simp only [Option.some.injEq] at hv; subst hv
      congr 1
      have : ((Int.ofNat m : Int) < Int.ofNat n) ↔ m < n := by show ((m : Int) < n) ↔ _; omega
      rw [Bool.eq_iff_iff]; simp only [Nat.ble_eq, decide_eq_true_eq, this]; exact Iff.rfl
    · simp only [Option.some.injEq] at hv; exact hv.symm
  have hle : ∀ x y : Int, ∀ v, iLeq k x y = some v → v = .bool (decide (x ≤ y)) := by
    intro x y v hv
    simp only [iLeq] at hv
    split at hv
    · rename_i m n
      simp only [Option.some.injEq] at hv; subst hv
      congr 1
      have : ((Int.ofNat m : Int) ≤ Int.ofNat n) ↔ m ≤ n := by show ((m : Int) ≤ n) ↔ _; omega
      rw [Bool.eq_iff_iff]; simp only [Nat.ble_eq, decide_eq_true_eq, this]
    · simp only [Option.some.injEq] at hv; exact hv.symm
  cases op
  case shl =>
    simp only [intF, iShl] at h
    split at h
    · rename_i m n
      simp only [Option.some.injEq] at h; subst h
      refine ⟨_, ?_, .int _ _⟩
      rw [norm_eq, minN_eq, bits_eq]
      simp only [binOp, Op.shift]
      rw [if_neg (by show ¬ ((n : Int) < 0); omega)]
      simp only [Sem.run_pure, Result.ok.injEq, and_true, Value.int.injEq, true_and]
      refine congrArg _ ?_
      show (m : Int) * 2 ^ (min (Int.toNat (n : Int)) k.bits) = ((m * 2 ^ (min n k.bits) : Nat) : Int)
      push_cast; try simp
    · cases h
  case shr =>
    simp only [intF, iShr] at h
    split at h
    · rename_i m n
      simp only [Option.some.injEq] at h; subst h
      refine ⟨_, ?_, .int _ _⟩
      rw [minN_eq, bits_eq]
      simp only [binOp, Op.shift]
      rw [if_neg (by show ¬ ((n : Int) < 0); omega)]
      simp only [Sem.run_pure, Result.ok.injEq, and_true, Value.int.injEq, true_and]
      show Int.fdiv (m : Int) (2 ^ (min (Int.toNat (n : Int)) k.bits)) = ((m / 2 ^ (min n k.bits) : Nat) : Int)
      have : ((2 : Int) ^ (min (Int.toNat (n : Int)) k.bits)) = ((2 ^ (min n k.bits) : Nat) : Int) := by push_cast; rfl
      rw [this, Int.ofNat_fdiv]
    · cases h
  all_goals
    have hkl : k = l := by rcases hk with h | h <;> first | exact h | (simp [isShift] at h)
    subst hkl
  case add =>
    simp only [intF, iAdd] at h
    split at h
    · simp only [Option.some.injEq] at h; subst h
      refine ⟨_, ?_, .int _ _⟩
      rw [norm_eq]
      simp only [binOp, Op.intArith, ne_eq, not_true_eq_false, if_false]; rfl
    · simp only [Option.some.injEq] at h; subst h
      exact ⟨_, by simp [binOp, Op.intArith], .int _ _⟩
  case sub =>
    simp only [intF, iSub] at h
    split at h
    · rename_i m n
      unfold sel at h
      cases hle : Nat.ble n m
      · rw [hle] at h; simp only [Option.some.injEq] at h; subst h
        exact ⟨_, by simp [binOp, Op.intArith], .int _ _⟩
      · rw [hle] at h; simp only [Option.some.injEq] at h; subst h
        refine ⟨_, ?_, .int _ _⟩
        rw [norm_eq]
        have := Nat.le_of_ble_eq_true hle
        have e : (Int.ofNat m - Int.ofNat n) = Int.ofNat (Nat.sub m n) := by show ((m : Int) - n) = ((m - n : Nat) : Int); omega
        simp only [binOp, Op.intArith, e]; simp
    · simp only [Option.some.injEq] at h; subst h
      exact ⟨_, by simp [binOp, Op.intArith], .int _ _⟩
  case mul =>
    simp only [intF, iMul] at h
    split at h
    · simp only [Option.some.injEq] at h; subst h
      refine ⟨_, ?_, .int _ _⟩
      rw [norm_eq]
      simp only [binOp, Op.intArith, ne_eq, not_true_eq_false, if_false]; rfl
    · simp only [Option.some.injEq] at h; subst h
      exact ⟨_, by simp [binOp, Op.intArith], .int _ _⟩
  case quo =>
    simp only [intF, iQuo] at h
    split at h
    · rename_i m n
      unfold sel at h
      cases hz : Nat.beq n 0
      · rw [hz] at h; simp only [Option.some.injEq] at h; subst h
        refine ⟨_, ?_, .int _ _⟩
        have hn : ¬ ((Int.ofNat n : Int) = 0) := fun e => by
          have : n = 0 := by have := e; simpa using this
          subst this; simp at hz
        simp only [binOp, Op.intDiv, hn, if_false, ne_eq, not_true_eq_false]
        rw [norm_eq]; rfl
      · rw [hz] at h; cases h
    · cases hz : eqI b 0 <;> rw [hz] at h <;> simp only [cond_true, cond_false] at h
      case true => cases h
      cases h
      rw [eqI_eq] at hz
      have hn : ¬ b = 0 := by simpa using hz
      exact ⟨_, by simp only [binOp, Op.intDiv, hn, if_false, ne_eq, not_true_eq_false]; rfl, .int _ _⟩
  case rem =>
    simp only [intF, iRem] at h
    split at h
    · rename_i m n
      unfold sel at h
      cases hz : Nat.beq n 0
      · rw [hz] at h; simp only [Option.some.injEq] at h; subst h
        refine ⟨_, ?_, .int _ _⟩
        have hn : ¬ ((Int.ofNat n : Int) = 0) := fun e => by
          have : n = 0 := by have := e; simpa using this
          subst this; simp at hz
        simp only [binOp, Op.intDiv, hn, if_false, ne_eq, not_true_eq_false]
        rfl
      · rw [hz] at h; cases h
    · cases h
  case and =>
    simp only [intF, iAnd] at h
    split at h
    · rename_i m n
      simp only [Option.some.injEq] at h; subst h
      refine ⟨_, ?_, .int _ _⟩
      have := i_bits Nat.land (fun a b => a &&& b) (fun n a b => BitVec.toNat_and ..) (fun m n b => Nat.and_mod_two_pow ..) k m n
      rw [← this]
      simp [binOp, Op.intBits]
    · cases h
  case or =>
    simp only [intF, iOr] at h
    split at h
    · rename_i m n
      simp only [Option.some.injEq] at h; subst h
      refine ⟨_, ?_, .int _ _⟩
      have := i_bits Nat.lor (fun a b => a ||| b) (fun n a b => BitVec.toNat_or ..) (fun m n b => Nat.or_mod_two_pow ..) k m n
      rw [← this]
      simp [binOp, Op.intBits]
    · cases h
  case xor =>
    simp only [intF, iXor] at h
    split at h
    · rename_i m n
      simp only [Option.some.injEq] at h; subst h
      refine ⟨_, ?_, .int _ _⟩
      have := i_bits Nat.xor (fun a b => a ^^^ b) (fun n a b => BitVec.toNat_xor ..) (fun m n b => Nat.xor_mod_two_pow ..) k m n
      rw [← this]
      simp [binOp, Op.intBits]
    · cases h
  case lss => rw [hlt _ _ _ h]; exact ⟨_, by simp [binOp, Op.intCmp], .bool _⟩
  case leq => rw [hle _ _ _ h]; exact ⟨_, by simp [binOp, Op.intCmp], .bool _⟩
  case gtr => rw [hlt _ _ _ h]; exact ⟨_, by simp [binOp, Op.intCmp], .bool _⟩
  case geq => rw [hle _ _ _ h]; exact ⟨_, by simp [binOp, Op.intCmp], .bool _⟩
  all_goals (simp [intF, iNone] at h)
theorem oUn_ok (hφ : Facts E) (op : UnOp) {x v : AV} {x' : Value} (h : oUn op x = some v) (hx : Rl E x x') : ∃ v', (Op.unary op x').run P w = .ok v' w ∧ Rl E v v' := by
  unfold oUn at h
  split at h
  · rename_i k n
    cases hx
    unfold negI at h
    split at h
    · rename_i n
      cases hu : isU k
      · rw [hu] at h; simp only [cond_false, Option.some.injEq] at h; subst h
        exact ⟨_, by simp [Op.unary, Op.intArith], .int _ _⟩
      · rw [hu] at h; simp only [cond_true, Option.some.injEq] at h; subst h
        refine ⟨_, ?_, .int _ _⟩
        simp only [Op.unary, Op.intArith, Sem.run_pure, Result.ok.injEq, and_true, Value.int.injEq, true_and]
        cases k <;> first | (simp [isU] at hu; done) | skip
        all_goals
          simp only [IntKind.wrap, IntKind.signed, IntKind.bits, pw, Bool.false_and, Bool.false_eq_true, if_false]
          show _ = (((_ - n % _) % _ : Nat) : Int)
          show ((0 : Int) - (n : Int)) % _ = _
        · have : (2 : Int) ^ 8 = 256 := rfl
          rw [this]; omega
        · have : (2 : Int) ^ 16 = 65536 := rfl
          rw [this]; omega
        · have : (2 : Int) ^ 32 = 4294967296 := rfl
          rw [this]; omega
        · have : (2 : Int) ^ 64 = 18446744073709551616 := rfl
          rw [this]; omega
    · simp only [Option.some.injEq] at h; subst h
      exact ⟨_, by simp [Op.unary, Op.intArith], .int _ _⟩
  · rename_i k n
    cases hx
    unfold xorI at h
    split at h
    · rename_i n
      cases hu : isU k
      · rw [hu] at h; simp at h
      · rw [hu] at h; simp only [cond_true, Option.some.injEq] at h; subst h
        refine ⟨_, ?_, .int _ _⟩
        have hb := i_bits Nat.xor (fun a b => a ^^^ b) (fun n a b => BitVec.toNat_xor ..) (fun m n b => Nat.xor_mod_two_pow ..) k (pw k - 1) n
        have hmax : (if k.signed = true then (-1 : Int) else k.max) = Int.ofNat (pw k - 1) := by
          cases k <;> first | (simp [isU] at hu; done) | rfl
        simp only [Op.unary, Op.intBits, hmax]
        have hnorm : norm k (Nat.mod (Nat.xor (pw k - 1) n) (pw k)) = Int.ofNat (Nat.mod (Nat.xor (Nat.sub (pw k) 1) n) (pw k)) := by
          cases k <;> first | (simp [isU] at hu; done) | (simp only [norm, pw]; congr 1; exact Nat.mod_mod _ _)
        rw [← hnorm, ← hb]
        rfl
    · cases h
  · cases hx
    simp only [Option.some.injEq] at h; subst h
    exact ⟨_, by simp [Op.unary], .bool _⟩
  · cases hk : isKu .b x <;> rw [hk] at h <;> simp only [cond_true, cond_false] at h
    case false => cases h
    cases h
    obtain ⟨b, rfl⟩ := isKu_ok hφ hk hx
    exact ⟨.bool !b, rfl, .anyb _⟩
  · cases h; cases hx
    exact ⟨_, rfl, .anyi (wrap_wrap _ _)⟩
  · cases h; cases hx
    exact ⟨_, rfl, .anyi (wrap_wrap _ _)⟩
  · cases h
theorem natCmp_ok {op : BinOp} {i j : Nat} {b : Bool} {a c : Int} (h : natCmp op i j = some b) (h1 : a < c ↔ i < j) (h2 : a = c ↔ i = j) : (Op.intCmp op a c).run P w = .ok (.bool b) w := by
  have lt : ∀ m n : Nat, Nat.ble (m + 1) n = decide (m < n) := fun m n => by rw [Bool.eq_iff_iff]; simp only [Nat.ble_eq, decide_eq_true_eq]; exact Iff.rfl
  have le : ∀ m n : Nat, Nat.ble m n = decide (m ≤ n) := fun m n => by rw [Bool.eq_iff_iff]; simp
  unfold natCmp at h
  split at h <;> first | (cases h; done) | skip
  all_goals
    simp only [Option.some.injEq] at h
    subst h
    simp only [Op.intCmp, Sem.run_pure, Result.ok.injEq, and_true, Value.bool.injEq, lt, le]
    rw [decide_eq_decide]
    omega
theorem upCmp_ok {op : BinOp} {u m : Nat} {b : Bool} {a : Nat} (h : upCmp op u m = some b) (ha : a ≤ u) : (Op.intCmp op (a : Int) (Int.ofNat m)).run P w = .ok (.bool b) w := by
  have ofn : (Int.ofNat m) = (m : Int) := rfl
  rw [ofn]
  unfold upCmp at h
  split at h <;> first | (cases h; done) | skip
  · cases h1 : Nat.ble (u + 1) m <;> rw [h1] at h <;> simp only [cond_true, cond_false] at h
    · cases h2 : Nat.beq m 0 <;> rw [h2] at h <;> simp only [cond_true, cond_false] at h
      · cases h
      · cases h
        have := Nat.eq_of_beq_eq_true h2
        simp only [Op.intCmp, Sem.run_pure, Result.ok.injEq, and_true, Value.bool.injEq, decide_eq_false_iff_not]; omega
    · cases h
      have := Nat.le_of_ble_eq_true h1
      simp only [Op.intCmp, Sem.run_pure, Result.ok.injEq, and_true, Value.bool.injEq, decide_eq_true_eq]; omega
  · cases h1 : Nat.ble u m <;> rw [h1] at h <;> simp only [cond_true, cond_false] at h
    · cases h
    · cases h
      have := Nat.le_of_ble_eq_true h1
      simp only [Op.intCmp, Sem.run_pure, Result.ok.injEq, and_true, Value.bool.injEq, decide_eq_true_eq]; omega
  · cases h1 : Nat.ble u m <;> rw [h1] at h <;> simp only [cond_true, cond_false] at h
    · cases h
    · cases h
      have := Nat.le_of_ble_eq_true h1
      simp only [Op.intCmp, Sem.run_pure, Result.ok.injEq, and_true, Value.bool.injEq, decide_eq_false_iff_not]; omega
  · cases h1 : Nat.ble (u + 1) m <;> rw [h1] at h <;> simp only [cond_true, cond_false] at h
    · cases h2 : Nat.beq m 0 <;> rw [h2] at h <;> simp only [cond_true, cond_false] at h
      · cases h
      · cases h
        have := Nat.eq_of_beq_eq_true h2
        simp only [Op.intCmp, Sem.run_pure, Result.ok.injEq, and_true, Value.bool.injEq, decide_eq_true_eq]; omega
    · cases h
      have := Nat.le_of_ble_eq_true h1
      simp only [Op.intCmp, Sem.run_pure, Result.ok.injEq, and_true, Value.bool.injEq, decide_eq_false_iff_not]; omega
theorem ub_max (hφ : Facts E) (g : Bool) (n : Nat) : E.ub g n ≤ ubMax g n := by
  unfold Env.ub ubMax
  have := hφ.base
  cases g <;> simp <;> omega
theorem cmpK_ok (hφ : Facts E) {op : BinOp} {x y : AV} {k : IntKind} {a c : Int} {b : Bool} (h : cmpK op x y = some b) (hx : Rl E x (.int k a)) (hy : Rl E y (.int k c)) : (Op.intCmp op a c).run P w = .ok (.bool b) w := by
  unfold cmpK at h
  split at h
  · rename_i c1 i d j
    cases hcd : Nat.beq c1 d <;> rw [hcd] at h <;> simp only [cond_true, cond_false] at h
    case false => cases h
    have := Nat.eq_of_beq_eq_true hcd
    subst this
    cases ho : ordC c1 i j <;> rw [ho] at h <;> simp only [cond_true, cond_false] at h
    case false => cases h
    cases hx with
    | sym hxv _ _ =>
      cases hy with
      | sym hyv _ _ =>
        obtain ⟨m, n, h1, h2, h3, h4⟩ := sym_two hφ ho hxv hyv
        injection h1 with _ h1; injection h2 with _ h2
        subst h1; subst h2
        exact natCmp_ok h (by omega) (by omega)
  · rename_i c1 i k2
    cases hc : Nat.ble c1 2 <;> rw [hc] at h <;> simp only [cond_true, cond_false] at h
    case false => cases h
    have hc' := Nat.le_of_ble_eq_true hc
    cases hy
    cases hx with
    | sym hxv _ _ =>
      obtain ⟨n, h1, _, h3⟩ := sym_num hφ hxv (by omega)
      injection h1 with _ h1
      subst h1
      have := h3 hc'
      exact natCmp_ok h (by show (n : Int) < 0 ↔ _; omega) (by show (n : Int) = 0 ↔ _; omega)
  · rename_i k2 c1 i
    cases hc : Nat.ble c1 2 <;> rw [hc] at h <;> simp only [cond_true, cond_false] at h
    case false => cases h
    have hc' := Nat.le_of_ble_eq_true hc
    cases hx
    cases hy with
    | sym hyv _ _ =>
      obtain ⟨n, h1, _, h3⟩ := sym_num hφ hyv (by omega)
      injection h1 with _ h1
      subst h1
      have := h3 hc'
      exact natCmp_ok h (by show (0 : Int) < n ↔ _; omega) (by show (0 : Int) = n ↔ _; omega)
  · rename_i g n k2 m
    cases hy
    cases hx with
    | upto h1 h2 => exact upCmp_ok h (Nat.le_trans h1 (ub_max hφ g n))
  · cases h
theorem wrap_up {m : Nat} (h : m ≤ 9223372036854775807) : IntKind.i64.wrap (m : Int) = m := by
  have e1 : IntKind.i64.min = -9223372036854775808 := by decide
  have e2 : IntKind.i64.max = 9223372036854775807 := by decide
  exact (wrap_iff .i64 _).2 (by omega)
theorem uptoS_ok (hφ : Facts E) {g h : Bool} {n m1 m2 n1 n2 : Nat} {v : AV} (hu : uptoS g h n = some v) (hn : n = n1 + n2) (h1 : m1 ≤ E.ub g n1) (h2 : m2 ≤ E.ub h n2) : Rl E v (.int .i64 (IntKind.i64.wrap ((m1 : Int) + m2))) := by
  unfold uptoS at hu
  cases hgh : (bif g then h else false) <;> rw [hgh] at hu <;> simp only [cond_true, cond_false] at hu
  case true => cases hu
  cases hb : Nat.ble n 1000000000000 <;> rw [hb] at hu <;> simp only [cond_true, cond_false] at hu
  case false => cases hu
  cases hu
  have hb' := Nat.le_of_ble_eq_true hb
  have hbase := hφ.base
  have hbm : baseMax = 50000 := rfl
  have hm : m1 + m2 ≤ E.ub (bif g then true else h) n := by
    unfold Env.ub at *
    cases g <;> cases h <;> simp at * <;> omega
  have hm2 : m1 + m2 ≤ n + 50000 := by
    unfold Env.ub at hm
    revert hm
    cases (bif g then true else h) <;> simp <;> omega
  have e : ((m1 : Int) + m2) = ((m1 + m2 : Nat) : Int) := by push_cast; rfl
  rw [e, wrap_up (by omega)]
  exact .upto hm hb'
theorem arU_ok (hφ : Facts E) {op : BinOp} {x y v : AV} {k : IntKind} {a c : Int} (h : arU op x y = some v) (hx : Rl E x (.int k a)) (hy : Rl E y (.int k c)) : ∃ v', (Op.intArith op k a c).run P w = .ok v' w ∧ Rl E v v' := by
  unfold arU at h
  split at h
  · cases hx with
    | upto h1 h2 => cases hy with
      | upto h3 h4 => exact ⟨_, rfl, uptoS_ok hφ h rfl h1 h3⟩
  · rename_i g n k2 m
    cases hy
    cases hx with
    | upto h1 h2 => exact ⟨_, rfl, uptoS_ok hφ h rfl h1 (by simp [Env.ub])⟩
  · rename_i k2 m g n
    cases hx
    cases hy with
    | upto h1 h2 =>
      rename_i m2
      refine ⟨_, rfl, ?_⟩
      have e : (Int.ofNat m + (m2 : Int)) = ((m2 : Int) + m) := by show ((m : Int) + m2) = _; omega
      rw [e]
      exact uptoS_ok hφ h rfl h1 (by simp [Env.ub])
  · rename_i g n k2
    cases hy
    cases hx with
    | upto h1 h2 =>
      rename_i m2
      refine ⟨_, rfl, ?_⟩
      have e : ((m2 : Int) - Int.ofNat 0) = ((m2 : Int) + (0 : Nat)) := by show ((m2 : Int) - ((0 : Nat) : Int)) = _; omega
      rw [e]
      exact uptoS_ok hφ (n2 := 0) (m2 := 0) h rfl h1 (Nat.zero_le _)
  · cases h
theorem numK_in (hφ : Facts E) {k : IntKind} {x : AV} {n : Int} (h : numK x = some k) (hnn : ∀ j a, x ≠ .int j a) (hx : Rl E x (.int k n)) : k.wrap n = n := by
  unfold numK at h
  split at h
  · exact absurd rfl (hnn _ _)
  · rename_i c b
    cases hc : Nat.ble c 4 <;> rw [hc] at h <;> simp only [cond_true, cond_false] at h
    case false => cases h
    cases h
    cases hx with
    | sym hv hc2 ho =>
      obtain ⟨m, h1, h2, _⟩ := sym_num hφ hv (Nat.le_of_ble_eq_true hc)
      injection h1 with _ h1
      subst h1
      have e1 : IntKind.u64.min = 0 := by decide
      have e2 : IntKind.u64.max = 18446744073709551615 := by decide
      have e : (2 : Nat) ^ 64 = 18446744073709551616 := by decide
      exact (wrap_iff .u64 _).2 (by omega)
  · cases h; cases hx with
    | anyi h => exact h
  · cases h; cases hx with
    | upto h1 h2 =>
      rename_i g n m
      have := ub_max hφ g n
      have hm : m ≤ n + 50000 := by
        have h3 : ubMax g n ≤ n + 50000 := by unfold ubMax baseMax; cases g <;> simp
        omega
      exact wrap_up (by omega)
  · cases h
theorem bAny_ok (hφ : Facts E) {op : BinOp} {t : Nat} {x y v : AV} {x' y' : Value} (hn : ¬ ((∃ j a, x = .int j a) ∧ ∃ j a, y = .int j a)) (h : bAny op x y = some v) (hx : Rl E x x') (hy : Rl E y y') : ∃ v', (binOp op t x' y').run P w = .ok v' w ∧ Rl E v v' := by
  unfold bAny at h
  split at h
  · rename_i k l hk hl
    obtain ⟨a, rfl⟩ := numK_ok hφ hk hx
    obtain ⟨c, rfl⟩ := numK_ok hφ hl hy
    cases hc : isCmp op <;> rw [hc] at h <;> simp only [cond_true, cond_false] at h
    · cases ha : isAr op <;> rw [ha] at h <;> simp only [cond_true, cond_false] at h
      · cases hs : isShift op <;> rw [hs] at h <;> simp only [cond_true, cond_false] at h
        case false => cases h
        cases hyn : isNatV y <;> rw [hyn] at h <;> simp only [cond_true, cond_false] at h
        case false => cases h
        cases hxn : isNatV x <;> rw [hxn] at h <;> simp only [cond_true, cond_false] at h
        case true => cases h
        cases h
        have hyi : ∃ j m, y = .int j (.ofNat m) := by
          unfold isNatV at hyn
          split at hyn
          · exact ⟨_, _, rfl⟩
          · cases hyn
        obtain ⟨j, m, rfl⟩ := hyi
        cases hy
        have hxi : ∀ j a, x ≠ .int j a := fun j a e => hn ⟨⟨_, _, e⟩, ⟨_, _, rfl⟩⟩
        have hin := numK_in hφ hk hxi hx
        have hneg : ¬ ((Int.ofNat m : Int) < 0) := by show ¬ ((m : Int) < 0); omega
        cases op <;> first | (cases hs; done) | skip
        · exact ⟨.int k (k.wrap (a * 2 ^ min (Int.ofNat m).toNat k.bits)), by simp only [binOp, Op.shift, hneg, if_false, Sem.run_pure], .anyi (wrap_wrap _ _)⟩
        · exact ⟨.int k (a.fdiv (2 ^ min (Int.ofNat m).toNat k.bits)), by simp only [binOp, Op.shift, hneg, if_false, Sem.run_pure], .anyi (wrap_shr _ _ _ hin)⟩
      · cases hkl : kindEq k l <;> rw [hkl] at h <;> simp only [cond_true, cond_false] at h
        case false => cases h
        have := kindEq_eq hkl
        subst this
        split at h
        · rename_i v0 hv0
          cases h
          have har : (binOp op t (.int k a) (.int k c)).run P w = (Op.intArith op k a c).run P w := by
            unfold arU at hv0
            split at hv0 <;> first | (simp [binOp]; done) | cases hv0
          rw [har]
          exact arU_ok hφ hv0 hx hy
        · cases h
          cases op <;> first | (cases ha; done) | skip
          case add => exact ⟨_, (show _ = (Op.intArith .add k a c).run P w by simp [binOp]).trans rfl, .anyi (wrap_wrap _ _)⟩
          case sub => exact ⟨_, (show _ = (Op.intArith .sub k a c).run P w by simp [binOp]).trans rfl, .anyi (wrap_wrap _ _)⟩
          case mul => exact ⟨_, (show _ = (Op.intArith .mul k a c).run P w by simp [binOp]).trans rfl, .anyi (wrap_wrap _ _)⟩
          case and => exact ⟨_, (show _ = (Op.intBits .and k a c).run P w by simp [binOp]).trans rfl, .anyi (wrap_wrap _ _)⟩
          case or => exact ⟨_, (show _ = (Op.intBits .or k a c).run P w by simp [binOp]).trans rfl, .anyi (wrap_wrap _ _)⟩
          case xor => exact ⟨_, (show _ = (Op.intBits .xor k a c).run P w by simp [binOp]).trans rfl, .anyi (wrap_wrap _ _)⟩
    · cases hkl : kindEq k l <;> rw [hkl] at h <;> simp only [cond_true, cond_false] at h
      case false => cases h
      have := kindEq_eq hkl
      subst this
      have hb : (binOp op t (.int k a) (.int k c)).run P w = (Op.intCmp op a c).run P w := by
        cases op <;> first | (cases hc; done) | simp [binOp]
      rw [hb]
      split at h
      · rename_i b hb2
        cases h
        exact ⟨_, cmpK_ok hφ hb2 hx hy, .bool _⟩
      · cases h
        cases op <;> first | (cases hc; done) | skip
        all_goals exact ⟨_, rfl, .anyb _⟩
  · cases h
end
end Go.Proofs.YtkmocipdekogkaaGreatDoor
end
section
namespace Go.Proofs.YtkmocipdekogkaaGreatDoor
set_option linter.unusedVariables false
set_option linter.unusedSimpArgs false
set_option linter.unusedSectionVars false

def GivesN (P : Program) (E : Env) (s : St) (w : World) (r : Sem Next) (v : AV) (s' : St) : Prop :=
  ∃ E' w' v' n, r.run P w = .ok n w' ∧ (n = .value v' ∨ (n = .skip ∧ v' = undef)) ∧ Step E s w E' s' w' ∧ Rel E' s' w' ∧ Fresh E' s' ∧ Rl E' v v'
def PlainOk (P : Program) (T : Tab) (op : Op) (x : OpF) : Prop :=
  ∀ (E : Env) (s : St) (w : World) (ev : Operand → AV) (ρ : Operand → Value) (o : Oper) (v : AV) (s' : St), o.op = op → Rel E s w → Fresh E s → (∀ y, Rl E (ev y) (ρ y)) → x T s ev = some (v, s') → GivesN P E s w (execOp ρ o) v s'
theorem Gives.toN {P : Program} {E : Env} {s : St} {w : World} {r : Sem Value} {v : AV} {s' : St} (h : Gives P E s w r v s') : GivesN P E s w (do pure (Next.value (← r))) v s' := by
  obtain ⟨E', w', v', h1, h2⟩ := h
  exact ⟨E', w', v', .value v', by simp [h1], .inl rfl, h2⟩
theorem GivesN.of_unit {P : Program} {E : Env} {s : St} {w : World} {r : Sem Unit} {s' : St} (h : ∃ E' w', r.run P w = .ok () w' ∧ Step E s w E' s' w' ∧ Rel E' s' w' ∧ Fresh E' s') : GivesN P E s w (do r; pure Next.skip) (.tup []) s' := by
  obtain ⟨E', w', h1, h2, h3, h4⟩ := h
  exact ⟨E', w', undef, .skip, by simp [h1], .inr ⟨rfl, rfl⟩, h2, h3, h4, .tup .nil⟩
theorem GivesN.ret {P : Program} {E : Env} {s : St} {w : World} {r : Sem Next} {v : AV} (R : Rel E s w) (F : Fresh E s) {v' : Value} (h : r.run P w = .ok (.value v') w) (hv : Rl E v v') : GivesN P E s w r v s :=
  ⟨E, w, v', _, h, .inl rfl, .refl E s w, R, F, hv⟩
theorem vs1_eq {s s' : St} {o : Option AV} {v : AV} (h : vs1 s o = some (v, s')) : o = some v ∧ s' = s := by
  unfold vs1 at h; split at h
  · cases h; exact ⟨rfl, rfl⟩
  · cases h
theorem us1_eq {o : Option St} {v : AV} {s' : St} (h : us1 o = some (v, s')) : o = some s' ∧ v = .tup [] := by
  unfold us1 at h; split at h
  · cases h; exact ⟨rfl, rfl⟩
  · cases h
theorem natOf_eq {E : Env} {a : AV} {v : Value} {n : Nat} (h : natOf a = some n) (hv : Rl E a v) : ∃ k, a = .int k (n : Int) ∧ v = .int k (n : Int) := by
  unfold natOf at h
  split at h
  · cases h; cases hv; exact ⟨_, rfl, rfl⟩
  · cases h
theorem mapE_rls {E : Env} {ev : Operand → AV} {ρ : Operand → Value} (h : ∀ y, Rl E (ev y) (ρ y)) : ∀ l : List Operand, Rls E (mapE ev l) (l.map ρ)
  | [] => .nil
  | x :: r => .cons (h x) (mapE_rls h r)
theorem eqN_ok {E : Env} (hφ : Facts E) {x y : AV} {x' y' : Value} {b : Bool} (h : eqN x y = some b) (hx : Rl E x x') (hy : Rl E y y') :
    (∃ p q, x' = .bool p ∧ y' = .bool q ∧ b = (p == q)) ∨ (∃ k p q, x' = .int k p ∧ y' = .int k q ∧ b = (p == q)) ∨ (∃ p q, x' = .string p ∧ y' = .string q ∧ b = (p == q) ∧ b = (p.toList == q.toList)) := by
  unfold eqN at h
  split at h
  · cases hx; cases hy; cases h; exact .inl ⟨_, _, rfl, rfl, rfl⟩
  · rename_i j m k n
    cases hx; cases hy
    cases hk : kindEq j k
    · rw [hk] at h; simp at h
    · rw [hk] at h
      have := kindEq_eq hk
      subst this
      simp only [cond_true, Option.some.injEq] at h
      rw [eqI_eq] at h
      exact .inr (.inl ⟨_, _, _, rfl, rfl, h.symm⟩)
  · rename_i p q
    cases hx; cases hy
    simp only [Option.some.injEq] at h
    have e : (p == q) = (p.data.toList == q.data.toList) := by rw [beq_toListBytes, ByteArray.toList_eq, ByteArray.toList_eq]
    refine .inr (.inr ⟨_, _, rfl, rfl, ?_, ?_⟩)
    · rw [e]; exact h.symm
    · rw [ByteArray.toList_eq, ByteArray.toList_eq]; exact h.symm
  · rename_i c i d j
    cases hx with
    | sym hxv hc ho =>
      cases hy with
      | sym hyv hc2 ho2 =>
        cases hcd : Nat.beq c d <;> rw [hcd] at h <;> simp only [cond_true, cond_false] at h
        case false => cases h
        have := Nat.eq_of_beq_eq_true hcd
        subst this
        cases hij : Nat.beq i j <;> rw [hij] at h <;> simp only [cond_true, cond_false] at h
        · cases hnc : neC c i j <;> rw [hnc] at h <;> simp only [cond_true, cond_false] at h
          case false => cases h
          cases h
          have hij' : i ≠ j := fun e => by subst e; simp at hij
          have hne := sym_ne hφ hnc hij' hxv hyv
          obtain ⟨m, rfl, _⟩ := sym_num hφ hxv (Nat.le_trans (neC_ok hnc).1 (by omega))
          obtain ⟨n, rfl, _⟩ := sym_num hφ hyv (Nat.le_trans (neC_ok hnc).1 (by omega))
          refine .inr (.inl ⟨.u64, m, n, rfl, rfl, ?_⟩)
          have : ¬ ((m : Int) = n) := fun e => hne (by rw [e])
          simpa using this
        · cases hc6 : Nat.ble c 6 <;> rw [hc6] at h <;> simp only [cond_true, cond_false] at h
          case false => cases h
          have hc6' := Nat.le_of_ble_eq_true hc6
          cases h
          have := Nat.eq_of_beq_eq_true hij
          subst this
          rw [hxv] at hyv
          injection hyv with hyv
          subst hyv
          rcases Nat.lt_or_ge 4 c with h4 | h4
          · rcases Nat.lt_or_ge 5 c with h5 | h5
            · have : c = 6 := by omega
              subst this
              obtain ⟨u, rfl⟩ := sym_bool hφ hxv
              exact .inl ⟨u, u, rfl, rfl, by simp⟩
            · have : c = 5 := by omega
              subst this
              obtain ⟨u, rfl, _⟩ := sym_str hφ hxv
              exact .inr (.inr ⟨u, u, rfl, rfl, by rw [beq_toListBytes]; simp, by simp⟩)
          · obtain ⟨n, rfl, _⟩ := sym_num hφ hxv h4
            exact .inr (.inl ⟨.u64, n, n, rfl, rfl, by simp⟩)
  · rename_i c i n
    cases hy
    cases hx with
    | sym hxv hc ho =>
      cases hc2 : Nat.ble c 2 <;> rw [hc2] at h <;> simp only [cond_true, cond_false] at h
      case false => cases h
      cases hz : eqI n 0 <;> rw [hz] at h <;> simp only [cond_true, cond_false] at h
      case false => cases h
      cases h
      have hc2' := Nat.le_of_ble_eq_true hc2
      obtain ⟨m, rfl, _, hm⟩ := sym_num hφ hxv (by omega)
      have hm := hm hc2'
      rw [eqI_eq] at hz
      have hz' : n = 0 := by simpa using hz
      subst hz'
      refine .inr (.inl ⟨.u64, m, 0, rfl, rfl, ?_⟩)
      have : ¬ ((m : Int) = 0) := by omega
      simpa using this
  · rename_i n c i
    cases hx
    cases hy with
    | sym hyv hc ho =>
      cases hc2 : Nat.ble c 2 <;> rw [hc2] at h <;> simp only [cond_true, cond_false] at h
      case false => cases h
      cases hz : eqI n 0 <;> rw [hz] at h <;> simp only [cond_true, cond_false] at h
      case false => cases h
      cases h
      have hc2' := Nat.le_of_ble_eq_true hc2
      obtain ⟨m, rfl, _, hm⟩ := sym_num hφ hyv (by omega)
      have hm := hm hc2'
      rw [eqI_eq] at hz
      have hz' : n = 0 := by simpa using hz
      subst hz'
      refine .inr (.inl ⟨.u64, 0, m, rfl, rfl, ?_⟩)
      have : ¬ ((0 : Int) = m) := by omega
      simpa using this
  · cases h
section
variable {P : Program} {T : Tab} (hT : TOk P T)
include hT
theorem p_move (x : Operand) : PlainOk P T (.move x) (xMove x) := by
  intro E s w ev ρ o v s' ho R F hev h
  simp only [xMove, Option.some.injEq, Prod.mk.injEq] at h
  obtain ⟨rfl, rfl⟩ := h
  exact .ret R F (v' := ρ x) (by simp [execOp, ho]) (hev x)
theorem p_assign (x : Operand) : PlainOk P T (.assign x) (xMove x) := by
  intro E s w ev ρ o v s' ho R F hev h
  simp only [xMove, Option.some.injEq, Prod.mk.injEq] at h
  obtain ⟨rfl, rfl⟩ := h
  exact .ret R F (v' := ρ x) (by simp [execOp, ho]) (hev x)
theorem p_pick (c a b : Operand) : PlainOk P T (.pick c a b) (xPick c a b) := by
  intro E s w ev ρ o v s' ho R F hev h
  have hc := hev c
  unfold xPick pickB at h
  split at h
  · rename_i t hct
    rw [hct] at hc
    cases hcv : ρ c <;> rw [hcv] at hc <;> cases hc
    simp only [Option.some.injEq, Prod.mk.injEq] at h
    obtain ⟨rfl, rfl⟩ := h
    cases t
    · exact .ret R F (v' := ρ b) (by simp [execOp, ho, hcv, asBool]) (hev b)
    · exact .ret R F (v' := ρ a) (by simp [execOp, ho, hcv, asBool]) (hev a)
  · rename_i cv hne
    cases h1 : isKu .b (ev c) <;> rw [h1] at h <;> simp only [cond_true, cond_false] at h
    case false => cases h
    cases h2 : isKu .b (ev a) <;> rw [h2] at h <;> simp only [cond_true, cond_false] at h
    case false => cases h
    cases h3 : isKu .b (ev b) <;> rw [h3] at h <;> simp only [cond_true, cond_false] at h
    case false => cases h
    cases h
    obtain ⟨t, hcv⟩ := isKu_ok R.facts h1 hc
    obtain ⟨p, hav⟩ := isKu_ok R.facts h2 (hev a)
    obtain ⟨q, hbv⟩ := isKu_ok R.facts h3 (hev b)
    cases t
    · exact .ret R F (v' := ρ b) (by simp [execOp, ho, hcv, asBool]) (by rw [hbv]; exact .anyb q)
    · exact .ret R F (v' := ρ a) (by simp [execOp, ho, hcv, asBool]) (by rw [hav]; exact .anyb p)
theorem p_alloc (t : Nat) : PlainOk P T (.alloc t) (xAlloc t) := by
  intro E s w ev ρ o v s' ho R F hev h
  unfold xAlloc at h
  split at h
  · rename_i i hi
    unfold allocB at h
    split at h
    · rename_i s1 hs1
      obtain ⟨l, hl, hone, rfl⟩ := newRow_eq hs1
      simp only [Option.some.injEq, Prod.mk.injEq] at h
      obtain ⟨rfl, rfl⟩ := h
      obtain ⟨z, hz, hzr, hzs, hzl⟩ := tab_zero hT hi hl w E
      obtain ⟨R', F', S'⟩ := new_row R F (sz := i.size) hone hzl [] t z.cells (by simp)
      refine ⟨_, _, _, .value _, ?_, .inl rfl, S', R', F', .ptr 0 (Env.set_same _ _)⟩
      simp [execOp, ho, Instr.alloc, hz, newVar, Go.newRow]
    · cases h
  · cases h
theorem p_box (t : Nat) (x : Operand) : PlainOk P T (.box t x) (xBox t x) := by
  intro E s w ev ρ o v s' ho R F hev h
  unfold xBox at h
  split at h
  · rename_i i hi
    unfold allocB at h
    split at h
    · rename_i s1 hs1
      obtain ⟨l, hl, hone, rfl⟩ := newRow_eq hs1
      simp only [Option.some.injEq, Prod.mk.injEq] at h
      obtain ⟨rfl, rfl⟩ := h
      obtain ⟨R', F', S'⟩ := new_row R F (sz := i.size) hone ((hev x).cells hl) [] t (ρ x).cells (by simp)
      refine ⟨_, _, _, .value _, ?_, .inl rfl, S', R', F', .ptr 0 (Env.set_same _ _)⟩
      simp [execOp, ho, Instr.box, newVar, Go.newRow]
    · cases h
  · cases h
theorem p_load (t : Nat) (a : Operand) : PlainOk P T (.load t a) (xLoad t a) := by
  intro E s w ev ρ o v s' ho R F hev h
  obtain ⟨h, rfl⟩ := vs1_eq h
  have := (g_load hT R F h (hev a)).toN
  simpa [execOp, ho] using this
theorem p_store (t : Nat) (a x : Operand) : PlainOk P T (.store t a x) (xStore t a x) := by
  intro E s w ev ρ o v s' ho R F hev h
  obtain ⟨h0, hv⟩ := us1_eq (o := oStore T s t (ev a) (ev x)) h
  subst hv
  obtain ⟨w', h1, h2, h3, h4⟩ := g_store hT R F h0 (hev a) (hev x)
  have := GivesN.of_unit (P := P) ⟨E, w', h1, h2, h3, h4⟩
  simpa [execOp, ho] using this
theorem p_nil (x : Operand) : PlainOk P T (.nilCheck x) (xNil x) := by
  intro E s w ev ρ o v s' ho R F hev h
  have hx := hev x
  unfold xNil nilB at h
  split at h
  all_goals first | (cases h; done) | skip
  all_goals
    rename_i hxv
    rw [hxv] at hx
    simp only [Option.some.injEq, Prod.mk.injEq] at h
    obtain ⟨rfl, rfl⟩ := h
    refine .ret R F (v' := ρ x) ?_ hx
    generalize hρ : ρ x = y at hx
    cases hx
    simp [execOp, ho, hρ]
end
end Go.Proofs.YtkmocipdekogkaaGreatDoor
end
section
namespace Go.Proofs.YtkmocipdekogkaaGreatDoor
set_option linter.unusedVariables false
set_option linter.unusedSimpArgs false
set_option linter.unusedSectionVars false

/-- What is asked of the types whose structs are compared. -/
def FlatOk (P : Program) (T : Tab) : Prop := ∀ t ks, T.flat t = some ks → P.stoodInHeld t = false ∧ P.eqGuardType P.depth t = false ∧ flatD T 5 t = some ks

theorem eqLK_append : ∀ (a b : List Kd) (xs ys : List AV), eqLK (a ++ b) xs ys = (match eqLK a xs ys with | some true => eqLK b (xs.drop a.length) (ys.drop a.length) | r => r)
  | [], b, xs, ys => by simp [eqLK]
  | k :: a, b, [], ys => by cases ys <;> simp [eqLK]
  | k :: a, b, x :: xs, [] => by simp [eqLK]
  | k :: a, b, x :: xs, y :: ys => by
    simp only [List.cons_append, eqLK]
    cases kdOk k x y
    · rfl
    · cases e : eqN x y with
      | none => rfl
      | some q =>
        cases q
        · rfl
        · simpa using eqLK_append a b xs ys
theorem eqLK_take : ∀ (a : List Kd) (xs ys : List AV), eqLK a (xs.take a.length) (ys.take a.length) = eqLK a xs ys
  | [], xs, ys => by simp [eqLK]
  | k :: a, [], ys => by cases ys <;> simp [eqLK]
  | k :: a, x :: xs, [] => by simp [eqLK]
  | k :: a, x :: xs, y :: ys => by
    simp only [List.length_cons, List.take_succ_cons, eqLK, eqLK_take a xs ys]
/-- What the kind of a scalar says of its description. -/
def kdDesc : Kd → TypeDesc → Bool
  | .b, .bool => true
  | .i, .int _ => true
  | .s, .string => true
  | _, _ => false
theorem scalar_eq {P : Program} {E : Env} (hφ : Facts E) {w : World} {t n : Nat} {d : TypeDesc} {k : Kd} {x y : AV} {x' y' : Value} {b : Bool} (hu : P.underlying t = some d) (hk : kdDesc k d = true) (hok : kdOk k x y = true)
    (hb : eqN x y = some b) (hx : Rl E x x') (hy : Rl E y y') : (Op.equalIn (n + 1) t x' y').run P w = .ok b w := by
  obtain ⟨hkx, _⟩ := kdOk_ok hok
  have hv := isKd_ok hφ hkx hx
  rcases eqN_ok hφ hb hx hy with ⟨p, q, rfl, rfl, rfl⟩ | ⟨k2, p, q, rfl, rfl, rfl⟩ | ⟨p, q, rfl, rfl, rfl, _⟩
  · cases k
    · cases d <;> first | (cases hk; done) | simp [Op.equalIn, run_underlying hu]
    · obtain ⟨_, _, hv⟩ := hv; cases hv
    · obtain ⟨_, hv⟩ := hv; cases hv
  · cases k
    · obtain ⟨_, hv⟩ := hv; cases hv
    · cases d <;> first | (cases hk; done) | simp [Op.equalIn, run_underlying hu]
    · obtain ⟨_, hv⟩ := hv; cases hv
  · cases k
    · obtain ⟨_, hv⟩ := hv; cases hv
    · obtain ⟨_, _, hv⟩ := hv; cases hv
    · cases d <;> first | (cases hk; done) | simp [Op.equalIn, run_underlying hu]

theorem arr_extract (l : List Value) (o n : Nat) : l.toArray.extract o (o + n) = ((l.drop o).take n).toArray := by
  simp [List.extract_eq_take_drop]

section
variable {P : Program} {T : Tab} (hT : TOk P T) (hF : FlatOk P T)
include hT hF
theorem flat_eq : ∀ (d : Nat) (t : Nat) (i : TI) (ks : List Kd), T.ti t = some i → flatD T d t = some ks → ∀ (n : Nat), d ≤ n → ∀ (E : Env), Facts E → ∀ (w : World),
    (isAggD i.desc = false → ∃ k, ks = [k] ∧ kdDesc k i.desc = true ∧ n ≠ 0) ∧
    (isAggD i.desc = true → ∀ xs ys xs' ys' b, Rls E xs xs' → Rls E ys ys' → eqLK ks xs ys = some b → (Op.equalIn n t (.agg xs'.toArray) (.agg ys'.toArray)).run P w = .ok b w) := by
  intro d
  induction d with
  | zero => intro t i ks hi h; cases h
  | succ d ih =>
    intro t i ks hi h n hn E hφ w
    obtain ⟨n, rfl⟩ : ∃ m, n = m + 1 := ⟨n - 1, by omega⟩
    have hu := hT.desc t i hi
    have hd : flatD T (d + 1) t = (match i.desc with
      | .bool => bif Nat.beq i.size 1 then some [.b] else none
      | .int _ => bif Nat.beq i.size 1 then some [.i] else none
      | .string => bif Nat.beq i.size 1 then some [.s] else none
      | .struct fs => match T.flat t with | some _ => flatFs T (flatD T d) fs.toList 0 | none => none
      | _ => none) := by
      show (match T.ti t with | some i => _ | none => none) = _
      rw [hi]; rfl
    rw [hd] at h
    clear hd
    refine ⟨fun hagg => ?_, fun hagg => ?_⟩
    · cases hdd : i.desc <;> rw [hdd] at h hagg <;> first | (simp [isAggD] at hagg; done) | (cases h; done) | skip
      all_goals
        cases hs : Nat.beq i.size 1 <;> rw [hs] at h <;> simp at h
        subst h
        exact ⟨_, rfl, rfl, by omega⟩
    · intro xs ys xs' ys' b hx hy hb
      cases hdd : i.desc <;> rw [hdd] at h hagg <;> first | (simp [isAggD] at hagg; done) | (cases h; done) | skip
      rename_i fs
      cases hfl : T.flat t with
      | none => rw [hfl] at h; cases h
      | some ks2 =>
        rw [hfl] at h
        simp only at h
        rw [hdd] at hu
        have hfo : P.fieldsOf t = fs := by unfold Program.fieldsOf; rw [hu]
        rw [run_equalIn_struct w n t xs'.toArray ys'.toArray (by rw [hfo]; exact hu) (hF t ks2 hfl).1, hfo]
        generalize fs.toList = l at h
        have key : ∀ (l : List Field) (off : Nat) (kb : List Kd) (b : Bool), flatFs T (flatD T d) l off = some kb → eqLK kb (xs.drop off) (ys.drop off) = some b →
            (Op.eqFields n xs'.toArray ys'.toArray l).run P w = .ok b w := by
          intro l
          induction l with
          | nil =>
            intro off kb b h1 h2
            cases h1
            simp only [eqLK, Option.some.injEq] at h2
            subst h2
            simp [Op.eqFields]
          | cons f r ihr =>
            intro off kb b h1 h2
            simp only [flatFs] at h1
            cases hname : decide (f.name = "_") <;> rw [hname] at h1 <;> simp only [cond_true, cond_false] at h1
            case true => cases h1
            have hname' : f.name ≠ "_" := by simpa using hname
            cases hoff : Nat.beq f.offset off <;> rw [hoff] at h1 <;> simp only [cond_true, cond_false] at h1
            case false => cases h1
            have hoff' := Nat.eq_of_beq_eq_true hoff
            subst hoff'
            split at h1
            · rename_i ka kr hka hkr
              cases hsz : Nat.beq (lenL ka) (T.size f.type) <;> rw [hsz] at h1 <;> simp only [cond_true, cond_false] at h1
              case false => cases h1
              cases h1
              have hsz' : ka.length = T.size f.type := by simpa [lenL_eq] using Nat.eq_of_beq_eq_true hsz
              rw [eqLK_append] at h2
              -- the field's type
              obtain ⟨j, hj⟩ : ∃ j, T.ti f.type = some j := by
                cases d with
                | zero => cases hka
                | succ d =>
                  have : flatD T (d + 1) f.type = (match T.ti f.type with | some i => _ | none => none) := rfl
                  cases hj : T.ti f.type with
                  | some j => exact ⟨j, rfl⟩
                  | none => rw [this, hj] at hka; cases hka
              have hsj : T.size f.type = j.size := by simp [Tab.size, hj]
              obtain ⟨hsc, hag⟩ := ih f.type j ka hj hka n (by omega) E hφ w
              have hcont : ∀ q, eqLK ka (xs.drop f.offset) (ys.drop f.offset) = some q → ∀ a c, (part f.type xs'.toArray f.offset).run P w = .ok a w → (part f.type ys'.toArray f.offset).run P w = .ok c w →
                  (Op.equalIn n f.type a c).run P w = .ok q w → (Op.eqFields n xs'.toArray ys'.toArray (f :: r)).run P w = .ok b w := by
                intro q hq a c ha hc heq
                simp only [Op.eqFields, hname', ne_eq, not_false_eq_true, if_true, Sem.run_bind, ha, hc, Result.andThen_ok, heq]
                rw [hq] at h2
                cases q
                · simp only [Option.some.injEq] at h2
                  subst h2; simp
                · simp only at h2
                  rw [List.drop_drop, List.drop_drop, hsz'] at h2
                  have := ihr (f.offset + T.size f.type) kr b hkr h2
                  simpa using this
              have hqe : ∃ q, eqLK ka (xs.drop f.offset) (ys.drop f.offset) = some q := by
                cases hq : eqLK ka (xs.drop f.offset) (ys.drop f.offset) with
                | some q => exact ⟨q, rfl⟩
                | none => rw [hq] at h2; cases h2
              obtain ⟨q, hq⟩ := hqe
              cases hagg2 : isAggD j.desc
              · obtain ⟨k, rfl, hkd, hn0⟩ := hsc hagg2
                obtain ⟨n', rfl⟩ : ∃ m, n = m + 1 := ⟨n - 1, by omega⟩
                have hqq := hq
                cases hxd : xs.drop f.offset with
                | nil => rw [hxd] at hqq; cases ys.drop f.offset <;> simp [eqLK] at hqq
                | cons x xr =>
                  cases hyd : ys.drop f.offset with
                  | nil => rw [hxd, hyd] at hqq; simp [eqLK] at hqq
                  | cons y yr =>
                    rw [hxd, hyd] at hqq
                    simp only [eqLK] at hqq
                    cases hok : kdOk k x y <;> rw [hok] at hqq <;> simp only [cond_true, cond_false] at hqq
                    case false => cases hqq
                    have hxi : xs[f.offset]? = some x := by rw [← List.head?_drop, hxd]; rfl
                    have hyi : ys[f.offset]? = some y := by rw [← List.head?_drop, hyd]; rfl
                    obtain ⟨x', hx', hrx⟩ := hx.at _ _ hxi
                    obtain ⟨y', hy', hry⟩ := hy.at _ _ hyi
                    cases he : eqN x y with
                    | none => rw [he] at hqq; cases hqq
                    | some e =>
                      have heq : e = q := by rw [he] at hqq; cases e <;> simpa using hqq
                      subst heq
                      refine hcont e hq x' y' ?_ ?_ (scalar_eq hφ (hT.desc _ _ hj) hkd hok he hrx hry)
                      · simp [part, tab_isAgg hT hj, hagg2, hx']
                      · simp [part, tab_isAgg hT hj, hagg2, hy']
              · have h3 : eqLK ka ((xs.drop f.offset).take j.size) ((ys.drop f.offset).take j.size) = some q := by
                  rw [← hsj, ← hsz', eqLK_take]; exact hq
                refine hcont q hq (.agg ((xs'.drop f.offset).take j.size).toArray) (.agg ((ys'.drop f.offset).take j.size).toArray) ?_ ?_ (hag hagg2 _ _ _ _ q ((hx.drop _).take _) ((hy.drop _).take _) h3)
                · simp [part, tab_isAgg hT hj, hagg2, tab_size hT hj, arr_extract, -List.extract_toArray]
                · simp [part, tab_isAgg hT hj, hagg2, tab_size hT hj, arr_extract, -List.extract_toArray]
            · cases h1
        exact key l 0 ks b h (by simpa using hb)
end
end Go.Proofs.YtkmocipdekogkaaGreatDoor
end
section
namespace Go.Proofs.YtkmocipdekogkaaGreatDoor
set_option linter.unusedVariables false
set_option linter.unusedSimpArgs false
set_option linter.unusedSectionVars false

theorem wrap64_small {n : Nat} (h : n ≤ 9223372036854775807) : IntKind.i64.wrap (n : Int) = n := by
  have e := norm_eq .i64 n
  have hb : Nat.ble n 9223372036854775807 = true := Nat.ble_eq_true_of_le h
  simp only [norm, sel, hb] at e
  exact e.symm
section
variable {P : Program} {T : Tab} (hT : TOk P T) (hF : FlatOk P T)
include hT hF
/-- Equality by a type, of operands of whatever kind. -/
theorem eq_ok {E : Env} (hφ : Facts E) {w : World} {t : Nat} {x y : AV} {x' y' : Value} {b : Bool} (h : oEq T t x y = some b) (hx : Rl E x x') (hy : Rl E y y') :
    (binOp .eql t x' y').run P w = .ok (.bool b) w ∧ (binOp .neq t x' y').run P w = .ok (.bool !b) w ∧ ∀ (op : BinOp) (p q : Operand), (eqGuard op t p q x' y').run P w = .ok () w := by
  have base : (Op.equal t x' y').run P w = .ok b w → (∀ k a c, ¬ (x' = .int k a ∧ y' = .int k c)) → (∀ a c, ¬ (x' = .string a ∧ y' = .string c)) →
      (¬ ∃ j a k c, x' = .int j a ∧ y' = .int k c) → (¬ ∃ k a, x' = .float k a) → (¬ ∃ k a c, x' = .complex k a c) → 
      (binOp .eql t x' y').run P w = .ok (.bool b) w ∧ (binOp .neq t x' y').run P w = .ok (.bool !b) w := by
    intro he h1 h2 h3 h4 h5
    have e1 : binOp .eql t x' y' = (do pure (.bool (← Op.equal t x' y'))) := by
      unfold binOp
      split <;> first | rfl | (exfalso; first | exact h3 ⟨_, _, _, _, rfl, rfl⟩ | exact h4 ⟨_, _, rfl⟩ | exact h5 ⟨_, _, _, rfl⟩ | exact h2 _ _ ⟨rfl, rfl⟩ | (simp_all; done)) | simp_all
    have e2 : binOp .neq t x' y' = (do pure (.bool (!(← Op.equal t x' y')))) := by
      unfold binOp
      split <;> first | rfl | (exfalso; first | exact h3 ⟨_, _, _, _, rfl, rfl⟩ | exact h4 ⟨_, _, rfl⟩ | exact h5 ⟨_, _, _, rfl⟩ | exact h2 _ _ ⟨rfl, rfl⟩ | (simp_all; done)) | simp_all
    rw [e1, e2]
    simp [he]
  have guard : (∀ a c, ¬ (x' = .agg a ∧ y' = .agg c)) → ¬ (x' = .nilIface ∧ y' = .nilIface) → ∀ (op : BinOp) (p q : Operand), (eqGuard op t p q x' y').run P w = .ok () w := by
    intro h1 h2 op p q
    have hm : ∀ (A : Sem Unit) (B : Array Value → Array Value → Sem Unit), (match x', y' with | .nilIface, .nilIface => A | .agg a, .agg c => B a c | _, _ => (pure () : Sem Unit)) = pure () := by
      intro A B
      split
      · exact absurd ⟨rfl, rfl⟩ h2
      · exact absurd ⟨rfl, rfl⟩ (h1 _ _)
      · rfl
    cases op <;> first | rfl | (simp only [eqGuard, Bool.not_true, Bool.false_eq_true, if_false]; exact congrArg (fun m => Sem.run P m w) (hm _ (fun _ _ => _)))
  unfold oEq at h
  cases hd : T.desc t with
  | none => rw [hd] at h; cases h
  | some d =>
    rw [hd] at h
    have hu := tab_desc hT hd
    have hkd : ∀ k, kdDesc k d = true → qKd k x y = some b → (binOp .eql t x' y').run P w = .ok (.bool b) w ∧ (binOp .neq t x' y').run P w = .ok (.bool !b) w ∧ ∀ (op : BinOp) (p q : Operand), (eqGuard op t p q x' y').run P w = .ok () w := by
      intro k hk hq
      unfold qKd at hq
      cases hok : kdOk k x y <;> rw [hok] at hq <;> simp only [cond_true, cond_false] at hq
      case false => cases hq
      have hs := scalar_eq hφ (P := P) (w := w) (n := 9999) hu hk hok hq hx hy
      rcases eqN_ok hφ hq hx hy with ⟨p, q, rfl, rfl, rfl⟩ | ⟨k, p, q, rfl, rfl, rfl⟩ | ⟨p, q, rfl, rfl, rfl, he⟩
      · have := base hs (by simp) (by simp) (by simp) (by simp) (by simp)
        exact ⟨this.1, this.2, guard (by simp) (by simp)⟩
      · exact ⟨by simp [binOp, Op.intCmp], by simp [binOp, Op.intCmp, bne], guard (by simp) (by simp)⟩
      · exact ⟨by simp [binOp, Op.stringOp, he], by simp [binOp, Op.stringOp, he], guard (by simp) (by simp)⟩
    have plain : (Op.equal t x' y').run P w = .ok b w → (¬ ∃ k a, x' = .int k a) → (¬ ∃ a, x' = .string a) → (¬ ∃ k a, x' = .float k a) → (¬ ∃ k a c, x' = .complex k a c) →
        (∀ a c, ¬ (x' = .agg a ∧ y' = .agg c)) → ¬ (x' = .nilIface ∧ y' = .nilIface) →
        (binOp .eql t x' y').run P w = .ok (.bool b) w ∧ (binOp .neq t x' y').run P w = .ok (.bool !b) w ∧ ∀ (op : BinOp) (p q : Operand), (eqGuard op t p q x' y').run P w = .ok () w := by
      intro he h1 h2 h3 h4 h5 h6
      have := base he (fun k a c hh => h1 ⟨_, _, hh.1⟩) (fun a c hh => h2 ⟨_, hh.1⟩) (fun ⟨j, a, k, c, hh, _⟩ => h1 ⟨_, _, hh⟩) h3 h4
      exact ⟨this.1, this.2, guard h5 h6⟩
    cases d <;> simp only [eqF] at h
    case bool => exact hkd .b rfl h
    case int k => exact hkd .i rfl h
    case string => exact hkd .s rfl h
    case pointer e =>
      unfold qPtr at h
      split at h <;> first | (cases h; done) | skip
      all_goals
        cases h; cases hx; cases hy
        refine plain ?_ (by simp) (by simp) (by simp) (by simp) (by simp) (by simp)
        show (Op.equalIn (9999 + 1) t _ _).run P w = _
        rw [Op.equalIn]
        simp only [Sem.run_bind, run_underlying hu, Result.andThen_ok]
        simp
    case slice e =>
      unfold qSl at h
      split at h <;> first | (cases h; done) | skip
      all_goals
        cases h; cases hx; cases hy
        refine plain ?_ (by simp) (by simp) (by simp) (by simp) (by simp) (by simp)
        show (Op.equalIn (9999 + 1) t _ _).run P w = _
        rw [Op.equalIn]
        simp only [Sem.run_bind, run_underlying hu, Result.andThen_ok]
        simp
    case map e f =>
      unfold qMap at h
      split at h <;> first | (cases h; done) | skip
      all_goals
        cases h; cases hx; cases hy
        refine plain ?_ (by simp) (by simp) (by simp) (by simp) (by simp) (by simp)
        show (Op.equalIn (9999 + 1) t _ _).run P w = _
        rw [Op.equalIn]
        simp only [Sem.run_bind, run_underlying hu, Result.andThen_ok]
        simp
    case func e f g =>
      unfold qFn at h
      split at h <;> first | (cases h; done) | skip
      all_goals
        cases h; cases hx; cases hy
        refine plain ?_ (by simp) (by simp) (by simp) (by simp) (by simp) (by simp)
        show (Op.equalIn (9999 + 1) t _ _).run P w = _
        rw [Op.equalIn]
        simp only [Sem.run_bind, run_underlying hu, Result.andThen_ok]
        simp
    case interface e =>
      unfold qIf at h
      split at h <;> first | (cases h; done) | skip
      all_goals
        cases h; cases hx; cases hy
        refine plain ?_ (by simp) (by simp) (by simp) (by simp) (by simp) (by simp)
        show (Op.equalIn (9999 + 1) t _ _).run P w = _
        rw [Op.equalIn]
        simp only [Sem.run_bind, run_underlying hu, Result.andThen_ok]
        simp
    case struct fs =>
      unfold qAgg at h
      split at h
      · rename_i a c
        cases hfl : T.flat t with
        | none => rw [hfl] at h; cases h
        | some ks =>
          rw [hfl] at h
          simp only at h
          cases hx with
          | agg hx => cases hy with
            | agg hy =>
              obtain ⟨h1, h2, h3⟩ := hF t ks hfl
              obtain ⟨i, hi⟩ : ∃ i, T.ti t = some i := by
                unfold Tab.desc at hd; split at hd
                · rename_i i hi; exact ⟨i, hi⟩
                · cases hd
              have hdi : i.desc = .struct fs := by
                unfold Tab.desc at hd; rw [hi] at hd; simpa using hd
              have := (flat_eq hT hF 5 t i ks hi h3 10000 (by omega) E hφ w).2 (by rw [hdi]; rfl) _ _ _ _ b hx hy h
              have hb := base (by simpa [Op.equal, Op.maxDepth] using this) (by simp) (by simp) (by simp) (by simp) (by simp)
              refine ⟨hb.1, hb.2, fun op p q => ?_⟩
              cases op <;> first | rfl | (simp [eqGuard, h2])
      · cases h
    all_goals (simp [qNone] at h)
/-- Equality of which nothing is known. -/
theorem unk_ok {E : Env} (hφ : Facts E) {w : World} {t : Nat} {x y v : AV} {x' y' : Value} (h : unkEq T (T.desc t) x y = some v) (hx : Rl E x x') (hy : Rl E y y') :
    v = .anyb ∧ (∃ b, (binOp .eql t x' y').run P w = .ok (.bool b) w) ∧ (∃ b, (binOp .neq t x' y').run P w = .ok (.bool b) w) ∧ ∀ (op : BinOp) (p q : Operand), (eqGuard op t p q x' y').run P w = .ok () w := by
  unfold unkEq at h
  split at h
  · rename_i hd
    cases h1 : isKu .b x <;> rw [h1] at h <;> simp only [cond_true, cond_false] at h
    case false => cases h
    cases h2 : isKu .b y <;> rw [h2] at h <;> simp only [cond_true, cond_false] at h
    case false => cases h
    cases h
    obtain ⟨a, rfl⟩ := isKu_ok hφ h1 hx
    obtain ⟨c, rfl⟩ := isKu_ok hφ h2 hy
    have hu := tab_desc hT hd
    have he : (Op.equal t (.bool a) (.bool c)).run P w = .ok (a == c) w := by
      show (Op.equalIn (9999 + 1) t _ _).run P w = _
      rw [Op.equalIn]
      simp only [Sem.run_bind, run_underlying hu, Result.andThen_ok]
      simp
    exact ⟨rfl, ⟨a == c, by simp [binOp, he]⟩, ⟨!(a == c), by simp [binOp, he]⟩, fun op p q => by cases op <;> simp [eqGuard]⟩
  · rename_i hd
    cases h1 : isKu .s x <;> rw [h1] at h <;> simp only [cond_true, cond_false] at h
    case false => cases h
    cases h2 : isKu .s y <;> rw [h2] at h <;> simp only [cond_true, cond_false] at h
    case false => cases h
    cases h
    obtain ⟨a, rfl⟩ := isKu_ok hφ h1 hx
    obtain ⟨c, rfl⟩ := isKu_ok hφ h2 hy
    exact ⟨rfl, ⟨a.toList == c.toList, by simp [binOp, Op.stringOp]⟩, ⟨!(a.toList == c.toList), by simp [binOp, Op.stringOp, bne]⟩, fun op p q => by cases op <;> simp [eqGuard]⟩
  · rename_i k0 hd
    split at h
    · rename_i k l hk hl
      cases hkl : kindEq k l <;> rw [hkl] at h <;> simp only [cond_true, cond_false] at h
      case false => cases h
      cases h
      obtain ⟨a, rfl⟩ := numK_ok hφ hk hx
      obtain ⟨c, rfl⟩ := numK_ok hφ hl hy
      have hkl' := kindEq_eq hkl
      subst hkl'
      exact ⟨rfl, ⟨a == c, by simp [binOp, Op.intCmp]⟩, ⟨a != c, by simp [binOp, Op.intCmp]⟩, fun op p q => by cases op <;> simp [eqGuard]⟩
    · cases h
  · rename_i e hd
    have hu := tab_desc hT hd
    split at h
    · cases h
      cases hy
      have key : ∀ (a : Option Addr) (m c : Nat), (Op.equal t (.slice a m c) (.slice none 0 0)).run P w = .ok (a.isNone) w := by
        intro a m c
        show (Op.equalIn (9999 + 1) t _ _).run P w = _
        rw [Op.equalIn]
        simp only [Sem.run_bind, run_underlying hu, Result.andThen_ok]
        cases a <;> simp
      have both : ∀ (a : Option Addr) (m c : Nat), (∃ b, (binOp .eql t (.slice a m c) (.slice none 0 0)).run P w = .ok (.bool b) w) ∧ (∃ b, (binOp .neq t (.slice a m c) (.slice none 0 0)).run P w = .ok (.bool b) w) := by
        intro a m c
        exact ⟨⟨a.isNone, by simp [binOp, key]⟩, ⟨!a.isNone, by simp [binOp, key]⟩⟩
      cases hx with
      | slu _ _ _ _ _ => exact ⟨rfl, (both _ _ _).1, (both _ _ _).2, fun op p q => by cases op <;> simp [eqGuard]⟩
      | slue _ _ _ _ a => exact ⟨rfl, (both _ _ _).1, (both _ _ _).2, fun op p q => by cases op <;> simp [eqGuard]⟩
    · cases h
  · cases h
theorem p_bin0 (op : BinOp) (t : Nat) (x y : Operand) (u : Nat) {E : Env} {s' : St} {w : World} {ev : Operand → AV} {ρ : Operand → Value} {o : Oper} {v : AV} (ho : o.op = .binOp op t x y u) (R : Rel E s' w) (F : Fresh E s') (hev : ∀ y, Rl E (ev y) (ρ y)) (h0 : oBin T op t (ev x) (ev y) = some v) : GivesN P E s' w (execOp ρ o) v s' := by
  have hx := hev x
  have hy := hev y
  have hexec : execOp ρ o = (do let v ← (do eqGuard op t x y (ρ x) (ρ y); binOp op t (ρ x) (ρ y)); pure (Next.value v)) := by simp [execOp, ho]
  rw [hexec]
  have heqv : op = .eql ∨ op = .neq ∨ (op ≠ .eql ∧ op ≠ .neq) := by by_cases h1 : op = .eql <;> by_cases h2 : op = .neq <;> simp [h1, h2]
  rcases heqv with rfl | rfl | ⟨hn1, hn2⟩
  · simp only [oBin, binF, bEq, boolO] at h0
    split at h0
    · rename_i b hb
      cases h0
      obtain ⟨h1, h2, h3⟩ := eq_ok hT hF R.facts (w := w) hb hx hy
      exact .ret R F (v' := .bool b) (by simp [h3, h1]) (.bool b)
    · obtain ⟨rfl, ⟨b, h1⟩, _, h3⟩ := unk_ok hT hF R.facts (w := w) h0 hx hy
      exact .ret R F (v' := .bool b) (by simp [h3, h1]) (.anyb b)
  · simp only [oBin, binF, bNeq, notO] at h0
    split at h0
    · rename_i b hb
      cases h0
      obtain ⟨h1, h2, h3⟩ := eq_ok hT hF R.facts (w := w) hb hx hy
      exact .ret R F (v' := .bool !b) (by simp [h3, h2]) (.bool _)
    · obtain ⟨rfl, _, ⟨b, h1⟩, h3⟩ := unk_ok hT hF R.facts (w := w) h0 hx hy
      exact .ret R F (v' := .bool b) (by simp [h3, h1]) (.anyb b)
  · have hb : bInt op T t (ev x) (ev y) = some v := by
      have : binF op = bInt op := by cases op <;> first | rfl | exact absurd rfl hn1 | exact absurd rfl hn2
      rw [← this]; exact h0
    unfold bInt at hb
    split at hb
    · rename_i k a l c hxv hyv
      rw [hxv] at hx; rw [hyv] at hy
      generalize hρx : ρ x = x' at hx
      generalize hρy : ρ y = y' at hy
      cases hx; cases hy
      have hk : k = l ∨ isShift op = true := by
        cases hke : kindEq k l
        · rw [hke] at hb; cases hsh : isShift op
          · rw [hsh] at hb; simp at hb
          · exact .inr rfl
        · exact .inl (kindEq_eq hke)
      have hi : intF op k a c = some v := by
        cases hke : kindEq k l <;> rw [hke] at hb <;> simp only [cond_true, cond_false] at hb
        · cases hsh : isShift op <;> rw [hsh] at hb <;> simp only [cond_true, cond_false] at hb
          · cases hb
          · exact hb
        · exact hb
      obtain ⟨v', hv', hr⟩ := intF_ok (P := P) (w := w) (E := E) op t k l a c v hk hi
      have hg : (eqGuard op t x y (.int k a) (.int l c)).run P w = .ok () w := by
        cases op <;> rfl
      exact .ret R F (v' := v') (by simp [hg, hv']) hr
    · rename_i hnn
      obtain ⟨v', hv', hr⟩ := bAny_ok (P := P) (w := w) R.facts (t := t) (fun ⟨⟨j, a, e1⟩, ⟨j2, a2, e2⟩⟩ => hnn _ _ _ _ e1 e2) hb hx hy
      have hg : (eqGuard op t x y (ρ x) (ρ y)).run P w = .ok () w := by
        cases op <;> first | exact absurd rfl hn1 | exact absurd rfl hn2 | rfl
      exact .ret R F (v' := v') (by simp [hg, hv']) hr
theorem p_bin (op : BinOp) (t : Nat) (x y : Operand) (u : Nat) : PlainOk P T (.binOp op t x y u) (xBin op t x y u) := by
  intro E s w ev ρ o v s' ho R F hev h
  obtain ⟨h0, rfl⟩ := vs1_eq (o := binX T op t x y (ev x) (ev y)) h
  unfold binX at h0
  split at h0
  · rename_i v2 hv
    cases h0
    exact p_bin0 hT hF op t x y u ho R F hev hv
  · have hx := hev x
    have hy := hev y
    unfold nilNil at h0
    split at h0
    · rename_i hxv hyv
      rw [hxv] at hx; rw [hyv] at hy
      generalize hρx : ρ x = x' at hx
      generalize hρy : ρ y = y' at hy
      cases hx; cases hy
      cases hc : (bif isCst x then true else isCst y) <;> rw [hc] at h0 <;> simp only [cond_true, cond_false] at h0
      case false => cases h0
      split at h0
      · rename_i ms hd
        have hu := tab_desc hT hd
        have he : (Op.equal t .nilIface .nilIface).run P w = .ok true w := by
          show (Op.equalIn (9999 + 1) t _ _).run P w = _
          rw [Op.equalIn]
          simp only [Sem.run_bind, run_underlying hu, Result.andThen_ok]
          simp
        have hg : (eqGuard op t x y .nilIface .nilIface).run P w = .ok () w := by
          have hor : (∃ z, x = .const z) ∨ (∃ z, y = .const z) := by
            cases x <;> first | exact .inl ⟨_, rfl⟩ | skip
            all_goals (cases y <;> first | exact .inr ⟨_, rfl⟩ | (simp [isCst] at hc; done))
          rcases hor with ⟨z, rfl⟩ | ⟨z, rfl⟩ <;> cases op <;> simp [eqGuard]
        split at h0
        · cases h0
          exact .ret R F (v' := .bool true) (by simp [execOp, ho, hρx, hρy, hg, binOp, he]) (.bool true)
        · cases h0
          exact .ret R F (v' := .bool false) (by simp [execOp, ho, hρx, hρy, hg, binOp, he]) (.bool false)
        · cases h0
      · cases h0
    · cases h0
end
section
variable {P : Program} {T : Tab} (hT : TOk P T)
include hT
theorem p_un (op : UnOp) (t : Nat) (x : Operand) : PlainOk P T (.unOp op t x) (xUn op t x) := by
  intro E s w ev ρ o v s' ho R F hev h
  obtain ⟨h0, rfl⟩ := vs1_eq (o := oUn op (ev x)) h
  obtain ⟨v', hv', hr⟩ := oUn_ok (P := P) (w := w) R.facts op h0 (hev x)
  exact .ret R F (v' := v') (by simp [execOp, ho, hv']) hr
theorem p_iface (t : Nat) (x : Operand) : PlainOk P T (.makeInterface t x) (xIface t x) := by
  intro E s w ev ρ o v s' ho R F hev h
  unfold xIface at h
  split at h
  · cases h
  · rename_i d hne hd
    simp only [Option.some.injEq, Prod.mk.injEq] at h
    obtain ⟨rfl, rfl⟩ := h
    refine .ret R F (v' := .iface t (ρ x)) ?_ (.ifc t (hev x))
    have hc : P.concrete t = true := by
      unfold Program.concrete
      rw [tab_desc hT hd]
      cases d <;> first | rfl | exact absurd rfl (hne _)
    simp [execOp, ho, run_makeInterface w t (ρ x) hc]
  · cases h
theorem p_func (f : Fn) (a b : Array Operand) : PlainOk P T (.makeFunc f a b) (xFunc f a b) := by
  intro E s w ev ρ o v s' ho R F hev h
  simp only [xFunc, Option.some.injEq, Prod.mk.injEq] at h
  obtain ⟨rfl, rfl⟩ := h
  refine .ret R F (v' := .func f (a.map ρ) (b.map ρ)) (by simp [execOp, ho, Instr.makeFunc]) ?_
  have h1 := Rl.fn f (mapE_rls hev a.toList) (mapE_rls hev b.toList)
  have e1 : (a.toList.map ρ).toArray = a.map ρ := by rw [← Array.toList_map, Array.toArray_toList]
  have e2 : (b.toList.map ρ).toArray = b.map ρ := by rw [← Array.toList_map, Array.toArray_toList]
  rw [e1, e2] at h1
  exact h1
theorem p_makeMap (t : Nat) (r : Option Operand) : PlainOk P T (.makeMap t r) (xMakeMap t r) := by
  intro E s w ev ρ o v s' ho R F hev h
  unfold xMakeMap at h
  cases r with
  | some _ => cases h
  | none =>
    simp only [Option.some.injEq, Prod.mk.injEq] at h
    obtain ⟨rfl, rfl⟩ := h
    obtain ⟨R', F', S'⟩ := R.new F (o := .map [] 0) (ob := .map #[] 0) (l := ⟨w.heap.size, 0, 0, 0⟩) rfl ⟨#[], heap_alloc_here w _, .nil⟩
    exact ⟨_, _, .map (some w.heap.size), _, by simp [execOp, ho, Instr.makeMap], .inl rfl, S', R', F', .mp (l := ⟨w.heap.size, 0, 0, 0⟩) (Env.set_same _ _)⟩
theorem repL_rls {E : Env} {z : List AV} {z' : List Value} (h : Rls E z z') : ∀ n, Rls E (repL z n) (List.replicate n z').flatten
  | 0 => by simpa [repL] using Rls.nil
  | n + 1 => by simpa [repL, List.replicate_succ] using h.append (repL_rls h n)
omit hT in
theorem rep_range (z : List Value) : ∀ n, (List.replicate n z).flatten = (List.range (n * z.length)).map (fun i => z.toArray[i % z.length]!) := by
  intro n
  by_cases hz : z.length = 0
  · have : z = [] := List.length_eq_zero_iff.1 hz
    subst this; simp
  · apply List.ext_getElem?
    intro i
    by_cases hi : i < n * z.length
    · have hmod : i % z.length < z.length := Nat.mod_lt _ (by omega)
      have h1 : ((List.range (n * z.length)).map (fun i => z.toArray[i % z.length]!))[i]? = some z[i % z.length] := by
        simp [hi, hmod]
      rw [h1]
      clear h1
      induction n generalizing i with
      | zero => simp at hi
      | succ n ih =>
        rw [List.replicate_succ, List.flatten_cons]
        by_cases hlt : i < z.length
        · rw [List.getElem?_append_left hlt]; simp [Nat.mod_eq_of_lt hlt, hlt]
        · rw [List.getElem?_append_right (by omega)]
          have hm : (i - z.length) % z.length = i % z.length := by rw [← Nat.mod_eq_sub_mod (by omega)]
          have := ih (i - z.length) (by rw [Nat.succ_mul] at hi; omega) (by rw [hm]; exact hmod)
          rw [this]
          simp [hm]
    · rw [List.getElem?_eq_none, List.getElem?_eq_none]
      · simp; omega
      · simp; omega
theorem p_makeSlice (t : Nat) (l c : Operand) : PlainOk P T (.makeSlice t l c) (xMakeSlice t l c) := by
  intro E s w ev ρ o v s' ho R F hev h
  unfold xMakeSlice at h
  split at h
  · rename_i e n m hd hn hm
    split at h
    · rename_i i hi
      split at h
      · rename_i z hz
        cases hb : (Nat.ble n m && Nat.ble m 1000000 && Nat.ble i.bytes 65536 && Nat.ble 1 i.size) <;> rw [hb] at h <;> simp only [cond_true, cond_false] at h
        case false => cases h
        simp only [Bool.and_eq_true, Nat.ble_eq] at hb
        obtain ⟨⟨⟨h1, h2⟩, h3⟩, h4⟩ := hb
        split at h
        · rename_i s1 hs1
          obtain ⟨cs, hcs, hone, rfl⟩ := newRow_eq hs1
          cases hcs
          simp only [Option.some.injEq, Prod.mk.injEq] at h
          obtain ⟨rfl, rfl⟩ := h
          obtain ⟨kl, _, hlv⟩ := natOf_eq hn (hev l)
          obtain ⟨kc, _, hcv⟩ := natOf_eq hm (hev c)
          obtain ⟨zv, hzrun, hzr, hzs, hzl⟩ := tab_zero hT hi hz w E
          obtain ⟨info, hi1, hi2, hi3⟩ := hT.info e i hi
          have hu := tab_desc hT hd
          have hzlen : zv.cells.toList.length = i.size := by simpa using hzs
          have hrep := rep_range zv.cells.toList m
          rw [hzlen] at hrep
          let row : Array Value := ((Array.range (m * i.size)).map (zv.cells[· % zv.cells.size]!))
          have hrow : row.toList = (List.replicate m zv.cells.toList).flatten ++ [] := by
            rw [hrep, List.append_nil]
            simp only [row, hzs]
            simp
          obtain ⟨R', F', S'⟩ := new_row R F (sz := i.size) hone (repL_rls hT hzl m) [] e row hrow
          have w1 : IntKind.i64.wrap (n : Int) = n := wrap64_small (by omega)
          have w2 : IntKind.i64.wrap (m : Int) = m := wrap64_small (by omega)
          refine ⟨_, _, .slice (some ⟨w.heap.size, 0, none⟩) n m, _, ?_, .inl rfl, S', R', F', .sl (l := ⟨w.heap.size, 0, row.size, i.size⟩) 0 n m (Env.set_same _ _) h1⟩
          have hbytes : ¬ ((info.bytes : Int) * (m : Int) > 2 ^ 48) := by
            rw [hi3]
            have : (i.bytes : Int) * (m : Int) ≤ 65536 * 1000000 := by
              have : i.bytes * m ≤ 65536 * 1000000 := Nat.mul_le_mul h3 h2
              rw [← Int.natCast_mul]; exact Int.ofNat_le.2 this
            have e : (2 : Int) ^ 48 = 281474976710656 := rfl
            rw [e]; omega
          have hneg : ¬ ((m : Int) < 0) := by omega
          have hlc : ¬ ((n : Int) < 0) ∧ ¬ ((n : Int) > (m : Int)) := by omega
          have hm0 : i.size ≠ 0 := by omega
          have hti : (typeInfo e).run P w = .ok info w := by simp [typeInfo, hi1]
          simp only [execOp, ho, Instr.makeSlice, Sem.run_bind, run_underlying hu, Result.andThen_ok, hlv, hcv, asInt, asIntOf, Sem.run_pure, hti, w1, w2]
          have t1 : decide ((m : Int) < 0) = false := decide_eq_false hneg
          have t2 : decide ((info.bytes : Int) * (m : Int) > 2 ^ 48) = false := decide_eq_false hbytes
          have t3 : decide ((n : Int) < 0) = false := decide_eq_false hlc.1
          have t4 : decide ((n : Int) > (m : Int)) = false := decide_eq_false hlc.2
          simp only [t1, t2, t3, t4, Bool.or_false, Bool.false_eq_true, if_false, Int.toNat_natCast, Sem.run_bind, run_askRoom, Result.andThen_ok, tab_size hT hi, Sem.run_ite, Sem.run_pure, hzrun, Go.newRow, run_newObj]
          by_cases hz0 : m * i.size = 0
          · have hm00 : m = 0 := by rcases Nat.mul_eq_zero.1 hz0 with h | h <;> omega
            subst hm00
            simp only [hz0, if_true, Result.andThen_ok]
            have : row = (Array.range (0 * i.size)).map (fun x => (#[] : Array Value)[x % (#[] : Array Value).size]!) := by simp [row]
            rw [this]
            simp
          · simp only [hz0, if_false, Result.andThen_ok]
            rfl
        · cases h
      · cases h
    · cases h
  · rename_i e hd hno
    split at h
    · rename_i g n h2 m i hl hc hi
      split at h
      · rename_i hzi
        cases hb : (Nat.beq i.size 1 && Nat.ble i.bytes 65536 && Nat.beq n m && (bif g then h2 else !h2) && Nat.ble n 400000 && sameOp l c) <;> rw [hb] at h <;> simp only [cond_true, cond_false] at h
        case false => cases h
        simp only [Bool.and_eq_true, Nat.ble_eq] at hb
        obtain ⟨⟨⟨⟨⟨b1, b2⟩, b3⟩, b4⟩, b5⟩, b6⟩ := hb
        cases h
        have b1' : i.size = 1 := Nat.eq_of_beq_eq_true b1
        have hlc : l = c := by
          unfold sameOp at b6
          split at b6
          · rw [Nat.eq_of_beq_eq_true b6]
          · cases b6
        subst hlc
        have hlr := hev l
        rw [hl] at hlr
        generalize hρ : ρ l = l' at hlr
        cases hlr with
        | upto h3 h4 =>
          rename_i k
          have hk : k ≤ 450000 := by
            have := ub_max R.facts g n
            have h5 : ubMax g n ≤ n + 50000 := by unfold ubMax baseMax; cases g <;> simp
            omega
          obtain ⟨zv, hzrun, hzr, hzs, _⟩ := tab_zero hT hi (l := [.int .u8 (.ofNat 0)]) (by rw [hzi]; rfl) w E
          rw [hzi] at hzr
          have hzv : zv = .int .u8 0 := by cases hzr; rfl
          subst hzv
          obtain ⟨info, i1, i2, i3⟩ := hT.info e i hi
          have hu := tab_desc hT hd
          let row : Array Value := ((Array.range (k * i.size)).map ((Value.int .u8 0).cells[· % (Value.int .u8 0).cells.size]!))
          have hrs : row.size = k := by simp [row, b1']
          have hrow : ∀ j, j < k → row[j]? = some (.int .u8 0) := by
            intro j hj
            have : j < k * i.size := by rw [b1']; omega
            simp [row, this, Value.cells, Nat.mod_one]
          obtain ⟨R', F', S'⟩ := R.new F (o := .junk true 1) (ob := .cells row e) (l := ⟨w.heap.size, 0, row.size, k⟩) rfl
            ⟨row, e, heap_alloc_here w _, rfl, fun j hj => ⟨.int .u8 0, by simpa using hrow j hj, rfl, fun _ => ⟨0, rfl, by decide⟩⟩⟩
          refine ⟨_, _, .slice (some ⟨w.heap.size, 0, none⟩) k k, _, ?_, .inl rfl, S', R', F', .slu (l := ⟨w.heap.size, 0, row.size, k⟩) (Env.set_same _ _) h3 (Nat.le_refl _) (by simp [hrs]) (by simp)⟩
          have w1 : IntKind.i64.wrap (k : Int) = k := wrap64_small (by omega)
          have hbytes : ¬ ((info.bytes : Int) * (k : Int) > 2 ^ 48) := by
            rw [i3]
            have : (i.bytes : Int) * (k : Int) ≤ 65536 * 1000000 := by
              have : i.bytes * k ≤ 65536 * 1000000 := Nat.mul_le_mul b2 (by omega)
              rw [← Int.natCast_mul]; exact Int.ofNat_le.2 this
            have e : (2 : Int) ^ 48 = 281474976710656 := rfl
            rw [e]; omega
          have hneg : ¬ ((k : Int) < 0) := by omega
          have hti : (typeInfo e).run P w = .ok info w := by simp [typeInfo, i1]
          have t1 : decide ((k : Int) < 0) = false := decide_eq_false hneg
          have t2 : decide ((info.bytes : Int) * (k : Int) > 2 ^ 48) = false := decide_eq_false hbytes
          have t4 : decide ((k : Int) > (k : Int)) = false := decide_eq_false (by omega)
          simp only [execOp, ho, Instr.makeSlice, Sem.run_bind, run_underlying hu, Result.andThen_ok, hρ, asInt, asIntOf, Sem.run_pure, hti, w1]
          simp only [t1, t2, t4, Bool.or_false, Bool.false_eq_true, if_false, Int.toNat_natCast, Sem.run_bind, run_askRoom, Result.andThen_ok, tab_size hT hi, Sem.run_ite, Sem.run_pure, hzrun, Go.newRow, run_newObj]
          by_cases hz0 : k * i.size = 0
          · have hm00 : k = 0 := by rw [b1'] at hz0; omega
            subst hm00
            simp only [hz0, if_true, Result.andThen_ok]
            have : row = (Array.range (0 * i.size)).map (fun x => (#[] : Array Value)[x % (#[] : Array Value).size]!) := by simp [row]
            rw [this]
            simp
          · simp only [hz0, if_false, Result.andThen_ok]
            rfl
      · cases h
    · cases h
  · cases h
end
end Go.Proofs.YtkmocipdekogkaaGreatDoor
end
section
namespace Go.Proofs.YtkmocipdekogkaaGreatDoor
set_option linter.unusedVariables false
set_option linter.unusedSimpArgs false
set_option linter.unusedSectionVars false

/-- The types that a type is made of are in the table. -/
def subD (T : Tab) : TypeDesc → Bool
  | .slice e => (T.ti e).isSome
  | .array _ e => (T.ti e).isSome
  | .struct fs => fs.toList.all fun f => (T.ti f.type).isSome
  | .map k e => (T.ti k).isSome && (T.ti e).isSome
  | .pointer e => (T.ti e).isSome
  | _ => true
def SubOk (T : Tab) : Prop := ∀ t i, T.ti t = some i → subD T i.desc = true
section
variable {P : Program} {T : Tab} (hT : TOk P T) (hS : SubOk T)
include hT hS
omit hT in
theorem sub_of {t : Nat} {d : TypeDesc} (h : T.desc t = some d) : subD T d = true := by
  unfold Tab.desc at h
  split at h
  · rename_i i hi; cases h; exact hS t i hi
  · cases h
omit hS in
theorem size_of {t : Nat} (h : (T.ti t).isSome = true) (w : World) : (sizeOf t).run P w = .ok (T.size t) w := by
  obtain ⟨i, hi⟩ := Option.isSome_iff_exists.1 h
  rw [tab_size hT hi]
  simp [Tab.size, hi]
omit hS in
theorem part_ok {E : Env} {w : World} {t off : Nat} {cs : List AV} {cs' : List Value} {v : AV} (h : oPart T t cs off = some v) (hc : Rls E cs cs') :
    ∃ v', (part t cs'.toArray off).run P w = .ok v' w ∧ Rl E v v' := by
  unfold oPart at h
  split at h
  · rename_i i hi
    cases hagg : isAggD i.desc <;> rw [hagg] at h <;> simp only [cond_true, cond_false] at h
    · rw [atL_eq] at h
      obtain ⟨v', hv', hr⟩ := hc.at _ _ h
      exact ⟨v', by simp [part, tab_isAgg hT hi, hagg, hv'], hr⟩
    · cases h
      exact ⟨.agg ((cs'.drop off).take i.size).toArray, by simp [part, tab_isAgg hT hi, hagg, tab_size hT hi, arr_extract, -List.extract_toArray], .agg (hc.cut off i.size)⟩
  · cases h
theorem p_fieldAddr (t : Nat) (x : Operand) (f : Nat) : PlainOk P T (.fieldAddr t x f) (xFieldAddr t x f) := by
  intro E s w ev ρ o v s' ho R F hev h
  have hx := hev x
  unfold xFieldAddr at h
  split at h
  · rename_i fs hd
    unfold fieldAddrB at h
    split at h
    · rename_i b off hxv
      rw [hxv] at hx
      generalize hρ : ρ x = x' at hx
      cases hx with
      | ptr _ hE =>
        rename_i l
        split at h
        · rename_i g hg
          cases hz : Nat.beq (T.size g.type) 0 <;> rw [hz] at h <;> simp only [cond_true, cond_false] at h
          case true => cases h
          cases h
          rw [atL_eq] at hg
          have hsub := sub_of hS hd
          simp only [subD, List.all_eq_true] at hsub
          have hgs := hsub g (List.mem_of_getElem? hg)
          have hz' : ¬ T.size g.type = 0 := fun e => by rw [e] at hz; cases hz
          have hfs : fs[f]? = some g := by simpa using hg
          refine .ret R F (v' := .pointer (some ⟨l.g, l.sh + (off + g.offset), none⟩)) ?_ (.ptr _ hE)
          simp [execOp, ho, hρ, Instr.fieldAt, run_underlying (tab_desc hT hd), hfs, Instr.sureAddr, fieldPlace, size_of hT hgs, hz', addr_add, Nat.add_assoc]
        · cases h
    · cases h
  · cases h
theorem p_field (t : Nat) (x : Operand) (f : Nat) : PlainOk P T (.field t x f) (xField t x f) := by
  intro E s w ev ρ o v s' ho R F hev h
  have hx := hev x
  unfold xField at h
  split at h
  · rename_i fs cs hd hxv
    rw [hxv] at hx
    generalize hρ : ρ x = x' at hx
    cases hx with
    | agg hc =>
      split at h
      · rename_i g hg
        obtain ⟨h0, rfl⟩ := vs1_eq h
        rw [atL_eq] at hg
        have hfs : fs[f]? = some g := by simpa using hg
        obtain ⟨v', hv', hr⟩ := part_ok hT (w := w) h0 hc
        exact .ret R F (v' := v') (by simp [execOp, ho, hρ, Instr.field, run_underlying (tab_desc hT hd), hfs, asAgg, hv']) hr
      · cases h
  · cases h
theorem p_indexAddr (t : Nat) (x ix : Operand) : PlainOk P T (.indexAddr t x ix) (xIndexAddr t x ix) := by
  intro E s w ev ρ o v s' ho R F hev h
  have hx := hev x
  unfold xIndexAddr at h
  split at h
  · rename_i n e b off i hd hxv hi
    rw [hxv] at hx
    generalize hρ : ρ x = x' at hx
    obtain ⟨k, _, hiv⟩ := natOf_eq hi (hev ix)
    cases hx with
    | ptr _ hE =>
      rename_i l
      cases hlt : Nat.ble (i + 1) n <;> rw [hlt] at h <;> simp only [cond_true, cond_false] at h
      case false => cases h
      cases h
      have hlt' : i < n := Nat.le_of_ble_eq_true hlt
      have hsub := sub_of hS hd
      refine .ret R F (v' := .pointer (some ⟨l.g, l.sh + (off + i * T.size e), none⟩)) ?_ (.ptr _ hE)
      have hc : 0 ≤ (i : Int) ∧ (i : Int) < n := by omega
      simp only [execOp, ho, hρ, Instr.indexAt, hiv, asIntOf, Sem.run_bind, Sem.run_pure, Result.andThen_ok, run_underlying (tab_desc hT hd), Instr.sureAddr, hc, and_self, if_true, Int.toNat_natCast, size_of hT (by simpa [subD] using hsub), addr_add, Nat.add_assoc]
  · rename_i e b off len cap i hd hxv hi
    rw [hxv] at hx
    generalize hρ : ρ x = x' at hx
    obtain ⟨k, _, hiv⟩ := natOf_eq hi (hev ix)
    cases hx with
    | sl _ _ _ hE hlc =>
      rename_i l
      cases hlt : Nat.ble (i + 1) len <;> rw [hlt] at h <;> simp only [cond_true, cond_false] at h
      case false => cases h
      cases h
      have hlt' : i < len := Nat.le_of_ble_eq_true hlt
      have hsub := sub_of hS hd
      refine .ret R F (v' := .pointer (some ⟨l.g, l.sh + (off + i * T.size e), none⟩)) ?_ (.ptr _ hE)
      have hc : 0 ≤ (i : Int) ∧ (i : Int) < len := by omega
      simp only [execOp, ho, hρ, Instr.indexAt, hiv, asIntOf, Sem.run_bind, Sem.run_pure, Result.andThen_ok, run_underlying (tab_desc hT hd), Instr.sureAddr, hc, and_self, if_true, Int.toNat_natCast, size_of hT (by simpa [subD] using hsub), addr_add, Nat.add_assoc]
  · rename_i e b off len i hd hxv hi
    rw [hxv] at hx
    generalize hρ : ρ x = x' at hx
    obtain ⟨k, _, hiv⟩ := natOf_eq hi (hev ix)
    cases hx with
    | slo _ _ _ hE hcap hlc =>
      rename_i l c
      cases hlt : Nat.ble (i + 1) len <;> rw [hlt] at h <;> simp only [cond_true, cond_false] at h
      case false => cases h
      cases h
      have hlt' : i < len := Nat.le_of_ble_eq_true hlt
      have hsub := sub_of hS hd
      refine .ret R F (v' := .pointer (some ⟨l.g, l.sh + (off + i * T.size e), none⟩)) ?_ (.ptr _ hE)
      have hc : 0 ≤ (i : Int) ∧ (i : Int) < len := by omega
      simp only [execOp, ho, hρ, Instr.indexAt, hiv, asIntOf, Sem.run_bind, Sem.run_pure, Result.andThen_ok, run_underlying (tab_desc hT hd), Instr.sureAddr, hc, and_self, if_true, Int.toNat_natCast, size_of hT (by simpa [subD] using hsub), addr_add, Nat.add_assoc]
  · cases h
theorem p_index (t : Nat) (x ix : Operand) : PlainOk P T (.index t x ix) (xIndex t x ix) := by
  intro E s w ev ρ o v s' ho R F hev h
  have hx := hev x
  unfold xIndex at h
  split at h
  · rename_i n e cs i hd hxv hi
    rw [hxv] at hx
    generalize hρ : ρ x = x' at hx
    obtain ⟨k, _, hiv⟩ := natOf_eq hi (hev ix)
    cases hx with
    | agg hcs =>
      cases hlt : Nat.ble (i + 1) n <;> rw [hlt] at h <;> simp only [cond_true, cond_false] at h
      case false => cases h
      obtain ⟨h0, rfl⟩ := vs1_eq h
      have hlt' : i < n := Nat.le_of_ble_eq_true hlt
      have hsub := sub_of hS hd
      obtain ⟨v', hv', hr⟩ := part_ok hT (w := w) h0 hcs
      refine .ret R F (v' := v') ?_ hr
      have hc : 0 ≤ (i : Int) ∧ (i : Int) < n := by omega
      simp only [execOp, ho, hρ, Instr.index, hiv, asIntOf, Sem.run_bind, Sem.run_pure, Result.andThen_ok, run_underlying (tab_desc hT hd), hc, and_self, if_true, Int.toNat_natCast, size_of hT (by simpa [subD] using hsub), hv']
  · rename_i u i hd hxv hi
    rw [hxv] at hx
    generalize hρ : ρ x = x' at hx
    obtain ⟨k, _, hiv⟩ := natOf_eq hi (hev ix)
    cases hx with
    | str =>
      split at h
      · rename_i c hc
        cases h
        rw [atL_eq] at hc
        refine .ret R F (v' := .int .u8 c.toNat) ?_ (.int _ _)
        have hb : u[i]? = some c := by
          show u.data[i]? = _
          simpa using hc
        simp [execOp, ho, hρ, Instr.index, hiv, asIntOf, run_underlying (tab_desc hT hd), hb]
      · cases h
  · cases h
theorem p_extract (t : Operand) (i : Nat) : PlainOk P T (.extract t i) (xExtract t i) := by
  intro E s w ev ρ o v s' ho R F hev h
  have hx := hev t
  unfold xExtract extractB at h
  split at h
  · rename_i l hl
    rw [hl] at hx
    generalize hρ : ρ t = x' at hx
    cases hx with
    | tup hc =>
      obtain ⟨h0, rfl⟩ := vs1_eq h
      rw [atL_eq] at h0
      obtain ⟨v', hv', hr⟩ := hc.at _ _ h0
      exact .ret R F (v' := v') (by simp [execOp, ho, hρ, Instr.extract, hv']) hr
  · cases h
theorem p_assert (x : Operand) (u t : Nat) (ok : Bool) : PlainOk P T (.typeAssert x u t ok) (xAssert x u t ok) := by
  intro E s w ev ρ o v s' ho R F hev h
  have hx := hev x
  obtain ⟨h0, rfl⟩ := vs1_eq (o := oAssert T (ev x) t ok) h
  unfold oAssert at h0
  split at h0
  · rename_i i hi
    have hu := hT.desc t i hi
    split at h0
    · cases h0
    · rename_i hni
      have zv : ∀ r : AV, (bif ok then some (AV.tup [i.zero, .bool false]) else none) = some r → ∃ z, (zeroValue t).run P w = .ok z w ∧ Rl E i.zero z ∧ ok = true ∧ r = .tup [i.zero, .bool false] := by
        intro r hr
        cases ok
        · cases hr
        · cases hr
          obtain ⟨z, h1, h2⟩ := tab_zeroV hT hi w E
          exact ⟨z, h1, h2, rfl, rfl⟩
      split at h0
      · rename_i a v1 hxv
        rw [hxv] at hx
        generalize hρ : ρ x = x' at hx
        cases hx with
        | ifc _ hv =>
          rename_i v2
          cases hat : Nat.beq a t <;> rw [hat] at h0 <;> simp only [cond_true, cond_false] at h0
          · have hat' : ¬ a = t := fun e => by subst e; simp at hat
            obtain ⟨z, hz, hzr, rfl, rfl⟩ := zv _ h0
            refine .ret R F (v' := .tuple #[z, .bool false]) ?_ (.tup (.cons hzr (.cons (.bool _) .nil)))
            have : (Instr.typeAssert (.iface a v2) u t true).run P w = .ok (.tuple #[z, .bool false]) w := by
              unfold Instr.typeAssert
              simp only [Sem.run_bind, run_underlying hu, Result.andThen_ok]
              cases hdd : i.desc <;> first | exact absurd hdd (hni _) | simp [hat', hz]
            simp [execOp, ho, hρ, this]
          · have hat' := Nat.eq_of_beq_eq_true hat
            subst hat'
            cases h0
            have : (Instr.typeAssert (.iface a v2) u a ok).run P w = .ok (if ok then .tuple #[v2, .bool true] else v2) w := by
              unfold Instr.typeAssert
              simp only [Sem.run_bind, run_underlying hu, Result.andThen_ok]
              cases hdd : i.desc <;> first | exact absurd hdd (hni _) | simp
            cases ok
            · exact .ret R F (v' := v2) (by simp [execOp, ho, hρ, this]) hv
            · exact .ret R F (v' := .tuple #[v2, .bool true]) (by simp [execOp, ho, hρ, this]) (.tup (.cons hv (.cons (.bool _) .nil)))
      · rename_i hxv
        rw [hxv] at hx
        generalize hρ : ρ x = x' at hx
        cases hx
        obtain ⟨z, hz, hzr, rfl, rfl⟩ := zv _ h0
        refine .ret R F (v' := .tuple #[z, .bool false]) ?_ (.tup (.cons hzr (.cons (.bool _) .nil)))
        have : (Instr.typeAssert .nilIface u t true).run P w = .ok (.tuple #[z, .bool false]) w := by
          unfold Instr.typeAssert
          simp only [Sem.run_bind, run_underlying hu, Result.andThen_ok]
          cases hdd : i.desc <;> first | exact absurd hdd (hni _) | simp [hz]
        simp [execOp, ho, hρ, this]
      · cases h0
  · cases h0
omit hT hS in
theorem natOr_ok {E : Env} {ev : Operand → AV} {ρ : Operand → Value} (hev : ∀ y, Rl E (ev y) (ρ y)) {d n : Nat} {o : Option Operand} (h : natOr d (mapO ev o) = some n) :
    (o = none ∧ n = d) ∨ (∃ x k, o = some x ∧ ρ x = .int k (n : Int)) := by
  cases o with
  | none => simp only [mapO, natOr, Option.some.injEq] at h; exact .inl ⟨rfl, h.symm⟩
  | some x =>
    simp only [mapO, natOr] at h
    obtain ⟨k, _, hv⟩ := natOf_eq h (hev x)
    exact .inr ⟨x, k, rfl, hv⟩
omit hT hS in
theorem run_bound (w : World) (k : IntKind) (n y : Nat) (c : BoundsCode) (h : n ≤ y) : (Instr.sliceBound (.int k (n : Int)) y c).run P w = .ok n w := by
  simp [Instr.sliceBound, asIntOf, show 0 ≤ (n : Int) ∧ (n : Int) ≤ y by omega]
omit hT hS in
/-- The bounds of a slice expression. -/
theorem run_bounds (w : World) {E : Env} {ev : Operand → AV} {ρ : Operand → Value} (hev : ∀ y, Rl E (ev y) (ρ y)) (isS : Bool) {len cap l h m : Nat} {lo hi mx : Option Operand}
    (hl : natOr 0 (mapO ev lo) = some l) (hh : natOr len (mapO ev hi) = some h) (hm : natOr cap (mapO ev mx) = some m) (h1 : l ≤ h) (h2 : h ≤ m) (h3 : m ≤ cap) (hx : mx.isSome = true → hi.isSome = true) :
    (Instr.sliceBounds isS len cap (lo.map ρ) (hi.map ρ) (mx.map ρ)).run P w = .ok (l, h, m) w := by
  unfold Instr.sliceBounds
  rcases natOr_ok hev hm with ⟨rfl, rfl⟩ | ⟨xm, km, rfl, hxm⟩
  · rcases natOr_ok hev hh with ⟨rfl, rfl⟩ | ⟨xh, kh, rfl, hxh⟩
    · rcases natOr_ok hev hl with ⟨rfl, rfl⟩ | ⟨xl, kl, rfl, hxl⟩
      · simp
      · simp [hxl, run_bound w kl l h .sliceB h1]
    · rcases natOr_ok hev hl with ⟨rfl, rfl⟩ | ⟨xl, kl, rfl, hxl⟩
      · simp [hxh, run_bound w kh h m _ h2]
      · simp [hxh, hxl, run_bound w kh h m _ h2, run_bound w kl l h .sliceB h1]
  · rcases natOr_ok hev hh with ⟨rfl, rfl⟩ | ⟨xh, kh, rfl, hxh⟩
    · simp at hx
    · rcases natOr_ok hev hl with ⟨rfl, rfl⟩ | ⟨xl, kl, rfl, hxl⟩
      · simp [hxm, hxh, run_bound w km m cap _ h3, run_bound w kh h m _ h2]
      · simp [hxm, hxh, hxl, run_bound w km m cap _ h3, run_bound w kh h m _ h2, run_bound w kl l h _ h1]
theorem p_slice (t : Nat) (x : Operand) (lo hi mx : Option Operand) : PlainOk P T (.slice t x lo hi mx) (xSlice t x lo hi mx) := by
  intro E s w ev ρ o v s' ho R F hev h
  have hx := hev x
  unfold xSlice at h
  have hmx : mx.isSome = true → hi.isSome = true := by
    cases mx <;> cases hi <;> simp [mxOk] at h ⊢
  have hok : mxOk hi mx = true := by cases mx <;> cases hi <;> simp [mxOk] at h ⊢
  rw [hok] at h
  simp only [cond_true] at h
  obtain ⟨h0, rfl⟩ := vs1_eq (o := oSlice T s t (ev x) (mapO ev lo) (mapO ev hi) (mapO ev mx)) h
  clear h
  unfold oSlice at h0
  have wrap : ∀ (r : Value), (Instr.sliceAt t (ρ x) (lo.map ρ) (hi.map ρ) (mx.map ρ)).run P w = .ok r w → Rl E v r → GivesN P E s' w (execOp ρ o) v s' := by
    intro r hr hv
    exact .ret R F (v' := r) (by simp [execOp, ho, hr]) hv
  split at h0
  · rename_i e hd
    have hu := tab_desc hT hd
    have hsub : (T.ti e).isSome = true := by simpa [subD] using sub_of hS hd
    have hsl : ∀ y, Instr.sliceAt t y (lo.map ρ) (hi.map ρ) (mx.map ρ) = (do match ← underlying t with
        | .array n elem => Instr.sliceAt t y (lo.map ρ) (hi.map ρ) (mx.map ρ)
        | _ => Instr.sliceAt t y (lo.map ρ) (hi.map ρ) (mx.map ρ)) → True := fun _ _ => trivial
    have hred : ∀ y, (Instr.sliceAt t y (lo.map ρ) (hi.map ρ) (mx.map ρ)).run P w = (Instr.slice t y (lo.map ρ) (hi.map ρ) (mx.map ρ)).run P w := by
      intro y; unfold Instr.sliceAt; simp only [Sem.run_bind, run_underlying hu, Result.andThen_ok]
    rw [hred] at wrap
    split at h0
    · -- nil
      rename_i hxv
      rw [hxv] at hx
      generalize hρ : ρ x = x' at hx wrap
      cases hx
      split at h0
      · rename_i hl hh hm
        cases h0
        refine wrap (.slice none 0 0) ?_ .nils
        unfold Instr.slice
        simp only [Sem.run_bind, run_underlying hu, Result.andThen_ok, run_bounds w hev true hl hh hm (Nat.le_refl _) (Nat.le_refl _) (Nat.le_refl _) hmx, size_of hT hsub]
        simp
      · cases h0
    · -- slz
      rename_i hxv
      rw [hxv] at hx
      generalize hρ : ρ x = x' at hx wrap
      cases hx with
      | slz a c =>
        split at h0
        · rename_i hl hh hm
          cases h0
          have hmn : mx = none := by cases mx <;> simp [mapO] at hm ⊢
          subst hmn
          refine wrap (.slice (some (if c = 0 then a else a.add 0)) 0 c) ?_ (.slz _ _)
          unfold Instr.slice
          simp only [Sem.run_bind, run_underlying hu, Result.andThen_ok, run_bounds w hev true hl hh (show natOr c (mapO ev none) = some c from rfl) (Nat.le_refl _) (Nat.zero_le _) (Nat.le_refl _) hmx, size_of hT hsub]
          by_cases hc : c = 0
          · simp [hc]
          · simp [hc]
        · cases h0
    · -- sl0
      rename_i hxv
      rw [hxv] at hx
      generalize hρ : ρ x = x' at hx wrap
      cases hx with
      | sl0 a =>
        split at h0
        · rename_i hl hh hm
          cases h0
          refine wrap (.slice a 0 0) ?_ (.sl0 a)
          unfold Instr.slice
          cases a with
          | none => simp only [Sem.run_bind, run_underlying hu, Result.andThen_ok, run_bounds w hev true hl hh hm (Nat.le_refl _) (Nat.le_refl _) (Nat.le_refl _) hmx, size_of hT hsub]; simp
          | some a => simp only [Sem.run_bind, run_underlying hu, Result.andThen_ok, run_bounds w hev true hl hh hm (Nat.le_refl _) (Nat.le_refl _) (Nat.le_refl _) hmx, size_of hT hsub]; simp
        · cases h0
    · -- slu
      rename_i b z gg nn hxv
      rw [hxv] at hx
      generalize hρ : ρ x = x' at hx wrap
      split at h0
      · rename_i hl hh hm
        obtain ⟨xh, hhi, hxh⟩ : ∃ xh, hi = some xh ∧ ∃ k, ρ xh = .int k ((0 : Nat) : Int) := by
          rcases natOr_ok hev hh with ⟨_, hc⟩ | ⟨xh, k, h1, h2⟩
          · cases hc
          · exact ⟨xh, h1, k, h2⟩
        have hh' : ∀ d, natOr d (mapO ev hi) = some 0 := by
          intro d; rw [hhi] at hh ⊢; exact hh
        cases mx with
        | some mv =>
          have hm' : ∀ d, natOr d (mapO ev (some mv)) = some 0 := fun d => hm
          simp only [mapO] at h0
          cases h0
          have hb : ∀ len cap : Nat, (Instr.sliceBounds true len cap (lo.map ρ) (hi.map ρ) ((some mv).map ρ)).run P w = .ok (0, 0, 0) w := fun len cap => run_bounds w hev true hl (hh' len) (hm' cap) (Nat.le_refl _) (Nat.le_refl _) (Nat.zero_le _) hmx
          cases hx with
          | slu hE q1 q2 q3 q4 =>
            rename_i m c l
            refine wrap (.slice (some ⟨l.g, l.sh, none⟩) 0 0) ?_ (.sl0 _)
            unfold Instr.slice
            simp only [Sem.run_bind, run_underlying hu, Result.andThen_ok, hb, size_of hT hsub]
            simp
          | slue _ _ _ _ a =>
            refine wrap (.slice a 0 0) ?_ (.sl0 _)
            unfold Instr.slice
            cases a <;> simp only [Sem.run_bind, run_underlying hu, Result.andThen_ok, hb, size_of hT hsub] <;> simp
        | none =>
          simp only [mapO] at h0
          cases h0
          have hb : ∀ len cap : Nat, (Instr.sliceBounds true len cap (lo.map ρ) (hi.map ρ) ((none : Option Operand).map ρ)).run P w = .ok (0, 0, cap) w := fun len cap => run_bounds w hev true hl (hh' len) (show natOr cap (mapO ev none) = some cap from rfl) (Nat.le_refl _) (Nat.zero_le _) (Nat.le_refl _) hmx
          cases hx with
          | slu hE hm1 hc1 hn1 hv1 =>
            rename_i m c l
            refine wrap (.slice (some ⟨l.g, l.sh, none⟩) 0 c) ?_ (.slu hE (Nat.zero_le _) (Nat.zero_le _) hn1 (by simp))
            unfold Instr.slice
            simp only [Sem.run_bind, run_underlying hu, Result.andThen_ok, hb, size_of hT hsub]
            by_cases hc0 : c = 0
            · simp [hc0]
            · simp [hc0, addr_add]
          | slue _ _ _ _ a =>
            refine wrap (.slice a 0 0) ?_ (.slue _ _ _ _ a)
            unfold Instr.slice
            cases a <;> simp only [Sem.run_bind, run_underlying hu, Result.andThen_ok, hb, size_of hT hsub] <;> simp
      · cases h0
    · -- sl
      rename_i b off len cap hxv
      rw [hxv] at hx
      generalize hρ : ρ x = x' at hx wrap
      cases hx with
      | sl _ _ _ hE hlen0 =>
        rename_i ll
        split at h0
        · rename_i l h m hl hh hm
          cases hb : (Nat.ble l h && Nat.ble h m && Nat.ble m cap) <;> rw [hb] at h0 <;> simp only [cond_true, cond_false] at h0
          case false => cases h0
          cases h0
          simp only [Bool.and_eq_true, Nat.ble_eq] at hb
          obtain ⟨⟨h1, h2⟩, h3⟩ := hb
          refine wrap (.slice (some ⟨ll.g, ll.sh + (bif Nat.beq m l then off else off + l * T.size e), none⟩) (h - l) (m - l)) ?_ (.sl _ _ _ hE (by omega))
          unfold Instr.slice
          simp only [Sem.run_bind, run_underlying hu, Result.andThen_ok, run_bounds w hev true hl hh hm h1 h2 h3 hmx, size_of hT hsub]
          by_cases hml : m = l
          · subst hml; simp
          · simp [hml, beqN_ne hml, addr_add, Nat.add_assoc]
        · cases h0
    · -- slo
      rename_i b off len hxv
      rw [hxv] at hx
      generalize hρ : ρ x = x' at hx wrap
      cases hx with
      | slo _ _ c hE hcap hlen0 =>
        rename_i ll
        split at h0
        · rename_i l h hl hh
          split at h0
          · rename_i cs sz hrow
            obtain ⟨l', hl', hok⟩ := R.at hE (rowAt_eq hrow)
            rw [hE] at hl'; cases hl'
            obtain ⟨k1, k2, row, ty, pre, vs, post, k3, k4, k5, k6, k7⟩ := hok
            have hlen : ll.sh + cs.length ≤ ll.n := by
              have e1 : row.size = pre.length + vs.length + post.length := by rw [← Array.length_toList, k4]; simp; omega
              have e2 := k6.length
              omega
            cases hb0 : (Nat.beq sz (T.size e) && Nat.ble 1 sz) <;> rw [hb0] at h0 <;> simp only [cond_true, cond_false] at h0
            case false => cases h0
            simp only [Bool.and_eq_true, Nat.ble_eq] at hb0
            have hsz := Nat.eq_of_beq_eq_true hb0.1
            have hsz1 := hb0.2
            clear hb0
            rw [k1] at hcap
            split at h0
            · -- two bounds
              rename_i hm
              have hmn : mx = none := by cases mx <;> simp [mapO] at hm ⊢
              subst hmn
              cases hb : (Nat.ble l h && Nat.ble (off + h * sz) (lenL cs)) <;> rw [hb] at h0 <;> simp only [cond_true, cond_false] at h0
              case false => cases h0
              simp only [Bool.and_eq_true, Nat.ble_eq, lenL_eq] at hb
              have hhc : h ≤ c := by
                have : h * sz ≤ c * sz := by omega
                exact Nat.le_of_mul_le_mul_right this (by omega)
              have hrun : (Instr.slice t (.slice (some ⟨ll.g, ll.sh + off, none⟩) len c) (lo.map ρ) (hi.map ρ) none).run P w =
                  .ok (.slice (some (if c = l then ⟨ll.g, ll.sh + off, none⟩ else (⟨ll.g, ll.sh + off, none⟩ : Addr).add (l * T.size e))) (h - l) (c - l)) w := by
                unfold Instr.slice
                have := run_bounds (P := P) w hev true hl hh (show natOr c (mapO ev none) = some c from rfl) hb.1 hhc (Nat.le_refl _) hmx
                simp only [Option.map_none] at this
                simp only [Sem.run_bind, run_underlying hu, Result.andThen_ok, this, size_of hT hsub]
                by_cases hcl : c = l
                · simp [hcl]
                · simp [hcl]
              cases hb2 : Nat.ble (off + l * sz + 1) (lenL cs) <;> rw [hb2] at h0 <;> simp only [cond_true, cond_false] at h0
              · cases h0
                have hlh : h - l = 0 := by
                  have h5 : ¬ (off + l * sz + 1 ≤ cs.length) := by rw [← lenL_eq]; exact fun hh => by rw [Nat.ble_eq_true_of_le hh] at hb2; cases hb2
                  have h6 : h * sz ≤ l * sz := by omega
                  have := Nat.le_of_mul_le_mul_right h6 (by omega)
                  omega
                rw [hlh] at hrun
                exact wrap _ hrun (.slz _ _)
              · cases h0
                have hb2' := Nat.le_of_ble_eq_true hb2
                rw [lenL_eq] at hb2'
                have hne : ¬ c = l := fun e => by subst e; omega
                rw [if_neg hne, addr_add, Nat.add_assoc, ← hsz] at hrun
                refine wrap _ hrun (.slo _ _ _ hE ?_ (by omega))
                rw [k1]
                have hlc : l ≤ c := by omega
                have : (c - l) * sz + l * sz = c * sz := by rw [← Nat.add_mul]; congr 1; omega
                omega
            · -- three bounds
              rename_i mv hm
              split at h0
              · rename_i m hmn
                cases hb : (Nat.ble l h && Nat.ble h m && Nat.ble (off + m * sz) (lenL cs)) <;> rw [hb] at h0 <;> simp only [cond_true, cond_false] at h0
                case false => cases h0
                cases h0
                simp only [Bool.and_eq_true, Nat.ble_eq, lenL_eq] at hb
                obtain ⟨⟨h1, h2⟩, h3⟩ := hb
                have hmc : m ≤ c := by
                  have : m * sz ≤ c * sz := by omega
                  exact Nat.le_of_mul_le_mul_right this (by omega)
                have hmm : natOr c (mapO ev mx) = some m := by rw [hm]; exact hmn
                refine wrap (.slice (some ⟨ll.g, ll.sh + (bif Nat.beq m l then off else off + l * sz), none⟩) (h - l) (m - l)) ?_ (.sl _ _ _ hE (by omega))
                unfold Instr.slice
                simp only [Sem.run_bind, run_underlying hu, Result.andThen_ok, run_bounds w hev true hl hh hmm h1 h2 hmc hmx, size_of hT hsub]
                by_cases hml : m = l
                · subst hml; simp
                · simp [hml, beqN_ne hml, addr_add, Nat.add_assoc, hsz]
              · cases h0
          · cases h0
        · cases h0
    · cases h0
  · -- an array behind a pointer
    rename_i n e hd
    have hu := tab_desc hT hd
    have hsub : (T.ti e).isSome = true := by simpa [subD] using sub_of hS hd
    split at h0
    · rename_i b off hxv
      rw [hxv] at hx
      generalize hρ : ρ x = x' at hx wrap
      cases hx with
      | ptr _ hE =>
        rename_i ll
        split at h0
        · rename_i l h m hl hh hm
          cases hb : (Nat.ble l h && Nat.ble h m && Nat.ble m n) <;> rw [hb] at h0 <;> simp only [cond_true, cond_false] at h0
          case false => cases h0
          cases h0
          simp only [Bool.and_eq_true, Nat.ble_eq] at hb
          obtain ⟨⟨h1, h2⟩, h3⟩ := hb
          refine wrap (.slice (some ⟨ll.g, ll.sh + (bif Nat.beq m l then off else off + l * T.size e), none⟩) (h - l) (m - l)) ?_ (.sl _ _ _ hE (by omega))
          unfold Instr.sliceAt
          simp only [Sem.run_bind, run_underlying hu, Result.andThen_ok, Instr.sureAddr, Sem.run_pure, run_bounds w hev false hl hh hm h1 h2 h3 hmx, size_of hT hsub]
          by_cases hml : m = l
          · subst hml; simp
          · simp [hml, beqN_ne hml, addr_add, Nat.add_assoc]
        · cases h0
    · cases h0
  · -- a text
    rename_i hd
    have hu := tab_desc hT hd
    split at h0
    · rename_i u hxv hm
      rw [hxv] at hx
      generalize hρ : ρ x = x' at hx wrap
      cases hx
      have hmn : mx = none := by cases mx <;> simp [mapO] at hm ⊢
      subst hmn
      split at h0
      · rename_i l h hl hh
        cases hb : (Nat.ble l h && Nat.ble h u.size) <;> rw [hb] at h0 <;> simp only [cond_true, cond_false] at h0
        case false => cases h0
        cases h0
        simp only [Bool.and_eq_true, Nat.ble_eq] at hb
        refine wrap (.string (u.extract l h)) ?_ (.str _)
        unfold Instr.sliceAt Instr.slice
        have := run_bounds (P := P) w hev false hl hh (show natOr u.size (mapO ev none) = some u.size from rfl) hb.1 hb.2 (Nat.le_refl _) hmx
        simp only [Option.map_none] at this
        simp [Sem.run_bind, run_underlying hu, this]
      · cases h0
    · cases h0
  · cases h0
end
end Go.Proofs.YtkmocipdekogkaaGreatDoor
end
section
namespace Go.Proofs.YtkmocipdekogkaaGreatDoor
set_option linter.unusedVariables false
set_option linter.unusedSimpArgs false
set_option linter.unusedSectionVars false

section
variable {P : Program} {T : Tab} (hT : TOk P T) (hS : SubOk T)
/-- Cells are read, in every world whose memory is the same. -/
theorem load_cut2 {E : Env} {w : World} {l : Loc} {cs : List AV} {sz off n : Nat} (h : ROk E l w (.row cs sz)) (hn : off + n ≤ cs.length) :
    ∃ us, Rls E (cutL off n cs) us ∧ us.length = n ∧ ∀ w1 : World, (∀ k : Nat, w1.heap[k]? = w.heap[k]?) → (loadCells ⟨l.g, l.sh + off, none⟩ n).run P w1 = .ok us.toArray w1 := by
  obtain ⟨vs, hv, hc⟩ := row_vals h
  have hlen := hv.length
  have hl : ((vs.drop off).take n).length = n := by simp; omega
  refine ⟨(vs.drop off).take n, hv.cut off n, hl, fun w1 hw => ?_⟩
  have := run_loadCells_list (P := P) w1 ⟨l.g, l.sh + off, none⟩ ((vs.drop off).take n) (fun j v hj => by
    rw [addr_add, Nat.add_assoc]
    have hcw : w1.cell? ⟨l.g, l.sh + (off + j), none⟩ = w.cell? ⟨l.g, l.sh + (off + j), none⟩ := by simp only [World.cell?, hw]
    rw [hcw]
    refine hc _ _ ?_
    have hjn : j < n := by
      rcases Nat.lt_or_ge j n with h | h
      · exact h
      · rw [List.getElem?_eq_none (by omega)] at hj; cases hj
    rw [List.getElem?_take_of_lt hjn, List.getElem?_drop] at hj
    exact hj)
  rw [hl] at this
  exact this
/-- The cells of a slice. -/
theorem cells_ok {E : Env} {s : St} {w : World} (R : Rel E s w) {x : AV} {x' : Value} {sz n : Nat} {cs : List AV} (h : oCells s sz x = some (cs, n)) (hx : Rl E x x') :
    ∃ us base cap, x' = .slice base n cap ∧ Rls E cs us ∧ us.length = n * sz ∧ allOne cs = true ∧ ∀ w1 : World, (∀ k : Nat, w1.heap[k]? = w.heap[k]?) → (Builtin.firstCells sz n x').run P w1 = .ok us.toArray w1 := by
  unfold oCells at h
  split at h
  · cases h; cases hx
    exact ⟨[], none, 0, rfl, .nil, by simp, rfl, fun w1 _ => by simp [Builtin.firstCells]⟩
  · cases h
    cases hx with
    | sl0 a => exact ⟨[], a, 0, rfl, .nil, by simp, rfl, fun w1 _ => by cases a <;> simp [Builtin.firstCells, loadCells, loadCellsFrom]⟩
  · cases h
    cases hx with
    | slz a c => exact ⟨[], some a, c, rfl, .nil, by simp, rfl, fun w1 _ => by simp [Builtin.firstCells, loadCells, loadCellsFrom]⟩
  · rename_i b off len cap
    split at h
    · rename_i cs1 sz1 hrow
      cases hle : Nat.ble (off + len * sz) (lenL cs1) <;> rw [hle] at h <;> simp only [cond_true, cond_false] at h
      case false => cases h
      cases h
      have hle' := Nat.le_of_ble_eq_true hle
      rw [lenL_eq] at hle'
      cases hx with
      | sl _ _ _ hE hlc =>
        rename_i l
        obtain ⟨l', hl', hok⟩ := R.at hE (rowAt_eq hrow)
        rw [hE] at hl'; cases hl'
        obtain ⟨us, h1, h2, h3⟩ := load_cut2 (P := P) hok hle'
        exact ⟨us, _, _, rfl, h1, h2, allOne_cut off _ hok.2.1, fun w1 hw => by simp only [Builtin.firstCells]; exact h3 w1 hw⟩
    · cases h
  · rename_i b off len
    split at h
    · rename_i cs1 sz1 hrow
      cases hle : Nat.ble (off + len * sz) (lenL cs1) <;> rw [hle] at h <;> simp only [cond_true, cond_false] at h
      case false => cases h
      cases h
      have hle' := Nat.le_of_ble_eq_true hle
      rw [lenL_eq] at hle'
      cases hx with
      | slo _ _ _ hE hc hlc =>
        rename_i l c
        obtain ⟨l', hl', hok⟩ := R.at hE (rowAt_eq hrow)
        rw [hE] at hl'; cases hl'
        obtain ⟨us, h1, h2, h3⟩ := load_cut2 (P := P) hok hle'
        exact ⟨us, _, _, rfl, h1, h2, allOne_cut off _ hok.2.1, fun w1 hw => by simp only [Builtin.firstCells]; exact h3 w1 hw⟩
    · cases h
  · cases h
theorem growBy_le' (need : Nat) : ∀ (r c : Nat), c ≤ need → Builtin.growBy need r c ≤ 2 * need + 768
  | 0, c, h => by simp [Builtin.growBy]; omega
  | r + 1, c, h => by
    unfold Builtin.growBy
    split
    · omega
    · by_cases hc : c + (c + 768) / 4 ≤ need
      · exact growBy_le' need r _ hc
      · cases r with
        | zero => simp [Builtin.growBy]; omega
        | succ r =>
          unfold Builtin.growBy
          rw [if_pos (by omega)]
          omega
theorem nextcap_le (need c : Nat) (h : c ≤ need) : Builtin.nextslicecap need c ≤ 2 * need + 768 := by
  unfold Builtin.nextslicecap
  split
  · omega
  · split
    · omega
    · exact growBy_le' need 4 c h
include hT
omit hT in
theorem rel_del {E : Env} {s : St} {w : World} (R : Rel E s w) (b : Nat) : Rel E { h := s.h.del b, nx := s.nx } w := by
  refine ⟨fun c o l hc => ?_, fun c d o o' l l' hc hd => ?_, R.facts⟩
  · simp only [Tr.get_del] at hc
    split at hc
    · cases hc
    · exact R.obj c o l hc
  · simp only [Tr.get_del] at hc hd
    split at hc
    · cases hc
    · split at hd
      · cases hd
      · exact R.inj c d o o' l l' hc hd
omit hT in
theorem step_del {E E' : Env} {s s' : St} {w w' : World} (h : Step E s w E' s' w') (b : Nat) : Step E s w E' { h := s'.h.del b, nx := s'.nx } w' := by
  refine ⟨h.le, h.size, h.tape, h.os, h.output, h.frame, fun c o l hc => ?_, h.nx, h.old⟩
  simp only [Tr.get_del] at hc
  split at hc
  · cases hc
  · exact h.own c o l hc
omit hT in
/-- A row under a new name. -/
theorem rel_swap {E : Env} {s : St} {w w' : World} (R : Rel E s w) (F : Fresh E s) {b : Nat} {o o' : AO} {l l' : Loc} (hb : s.h.get b = some o) (hE : E b = some l) (hg : l'.g = l.g)
    (hother : ∀ k, k ≠ l.g → w'.heap[k]? = w.heap[k]?) (hs : w'.heap.size = w.heap.size) (ht : w'.tape = w.tape) (ho : w'.os = w.os) (hp : w'.output = w.output) (hok : ROk (E.set s.nx l') l' w' o') :
    Rel (E.set s.nx l') { h := (s.new o').h.del b, nx := (s.new o').nx } w' ∧ Fresh (E.set s.nx l') { h := (s.new o').h.del b, nx := (s.new o').nx } ∧
      Step E s w (E.set s.nx l') { h := (s.new o').h.del b, nx := (s.new o').nx } w' := by
  have hle := Env.le_set (E := E) l' (F s.nx (Nat.le_refl _))
  have hbn : b ≠ s.nx := fun e => by subst e; rw [F _ (Nat.le_refl _)] at hE; cases hE
  have hget : ∀ c oc, ({ h := (s.new o').h.del b, nx := (s.new o').nx } : St).h.get c = some oc → (c = s.nx ∧ oc = o') ∨ (c ≠ s.nx ∧ c ≠ b ∧ s.h.get c = some oc) := by
    intro c oc hc
    simp only [Tr.get_del, St.new, Tr.get_set] at hc
    by_cases h1 : c = b
    · rw [if_pos h1] at hc; cases hc
    · rw [if_neg h1] at hc
      by_cases h2 : c = s.nx
      · rw [if_pos h2] at hc; cases hc; exact .inl ⟨h2, rfl⟩
      · rw [if_neg h2] at hc; exact .inr ⟨h2, h1, hc⟩
  have hold : ∀ c lc, c ≠ s.nx → E.set s.nx l' c = some lc → E c = some lc := fun c lc hc hEc => by
    simpa [Env.set, hc] using hEc
  refine ⟨⟨fun c oc lc hc hlc => ?_, fun c d oc od lc ld hc hd hEc hEd hgg => ?_, R.facts.mono hle⟩, fun c hc => ?_, hle, by omega, ht, ho, hp, fun k hk hn => hother k fun hk => hn b o l hb hE hk.symm, fun c oc lc hc hEc => ?_, Nat.le_succ _, fun c hc hn => by simp only [Env.set, if_neg (Nat.ne_of_lt hc)]; exact hn⟩
  · rcases hget c oc hc with ⟨rfl, rfl⟩ | ⟨h1, h2, h3⟩
    · rw [Env.set_same] at hlc; cases hlc; exact hok
    · have hlc0 := hold c lc h1 hlc
      have hr := R.obj c oc lc h3 hlc0
      exact (hr.mono hle).congr (hother _ fun hgg => h2 (R.inj c b oc o lc l h3 hb hlc0 hE hgg))
  · rcases hget c oc hc with ⟨rfl, rfl⟩ | ⟨h1, h2, h3⟩
    · rcases hget d od hd with ⟨rfl, rfl⟩ | ⟨k1, k2, k3⟩
      · rfl
      · rw [Env.set_same] at hEc; cases hEc
        exact absurd (R.inj d b od o ld l k3 hb (hold _ _ k1 hEd) hE (by omega)) k2
    · rcases hget d od hd with ⟨rfl, rfl⟩ | ⟨k1, k2, k3⟩
      · rw [Env.set_same] at hEd; cases hEd
        exact absurd (R.inj c b oc o lc l h3 hb (hold _ _ h1 hEc) hE (by omega)) h2
      · exact R.inj c d oc od lc ld h3 k3 (hold _ _ h1 hEc) (hold _ _ k1 hEd) hgg
  · simp only [St.new] at hc
    simp only [Env.set, if_neg (show ¬ c = s.nx by omega)]
    exact F c (by omega)
  · rcases hget c oc hc with ⟨rfl, rfl⟩ | ⟨h1, h2, h3⟩
    · rw [Env.set_same] at hEc; cases hEc
      exact .inr ⟨b, o, l, hb, hE, hg.symm⟩
    · exact .inr ⟨c, oc, lc, h3, hold _ _ h1 hEc, rfl⟩
/-- What is appended: 'us' runs out of the second operand, in every world with this memory. -/
def Adds (P : Program) (T : Tab) (w : World) (xt e : Nat) (i : TI) (y' : Value) (n : Nat) (us : List Value) : Prop :=
  ((∃ d, T.desc xt = some d ∧ (match d with | .int _ => False | _ => True)) ∧ (∀ w1, (Builtin.lenOf y').run P w1 = .ok n w1) ∧ (∀ w1 : World, (∀ k : Nat, w1.heap[k]? = w.heap[k]?) → (Builtin.firstCells i.size n y').run P w1 = .ok us.toArray w1)) ∨
  (∃ k kd z, T.desc xt = some (.int k) ∧ y' = .int kd (n : Int) ∧ n ≤ 1000000 ∧ (∀ w1, (zeroValue e).run P w1 = .ok z w1) ∧ us = (Builtin.zeroCells z.cells n).toList)
omit hT in
theorem zeroCells_len (z : Array Value) (n : Nat) : (Builtin.zeroCells z n).size = n * z.size := by simp [Builtin.zeroCells]
/-- In place. -/
theorem append_in {w : World} {ts : Array TypeId} {t xt e ty : Nat} (ht0 : ts[0]? = some t) (ht1 : ts[1]? = some xt) {i : TI} {y' : Value} {base : Option Addr} {len cap n : Nat} {us : List Value} (hd : T.desc t = some (.slice e)) (hi : T.ti e = some i) (hb : i.bytes ≤ 65536) (h1 : 1 ≤ i.size)
    (hadd : Adds P T w xt e i y' n us) (hul : us.length = n * i.size) (hin : len + n ≤ cap) :
    (Builtin.append_ ts ty #[.slice base len cap, y']).run P w = (match base with
      | some a => ((storeCells (a.add (len * i.size)) us).run P w).andThen fun _ w' => .ok (.slice base (len + n) cap) w'
      | none => .ok (.slice base (len + n) cap) w) := by
  obtain ⟨info, hi1, hi2, hi3⟩ := hT.info e i hi
  have hti : ∀ w1, (typeInfo e).run P w1 = .ok info w1 := fun w1 => by simp [typeInfo, hi1]
  unfold Builtin.append_
  rcases hadd with ⟨⟨d, hdx, hnd⟩, hlen, hcells⟩ | ⟨k, kd, z, hdx, rfl, hn, hz, rfl⟩
  · have hm : (match d with | .int _ => true | _ => false) = false := by cases d <;> first | rfl | exact hnd.elim
    simp only [ht0, ht1, List.getElem?_toArray, List.getElem?_cons_zero, List.getElem?_cons_succ, Sem.run_bind, run_underlying (tab_desc hT hd), Result.andThen_ok, tab_size hT hi, run_underlying (tab_desc hT hdx), Sem.run_pure]
    cases d <;> first | exact hnd.elim | skip
    all_goals
      simp only [Bool.false_eq_true, if_false, hlen, Result.andThen_ok, hin, if_true, Sem.run_bind, Bool.not_false, hcells w (fun _ => rfl)]
      cases base <;> simp
  · have hw := wrap64_small (n := n) (by omega)
    have hneg : ¬ ((n : Int) < 0) := by omega
    have hbig : ¬ ((n : Int) * (info.bytes : Int) > 2 ^ 48) := by
      rw [hi3]
      have : n * i.bytes ≤ 1000000 * 65536 := Nat.mul_le_mul hn hb
      have h2 : (n : Int) * (i.bytes : Int) ≤ 1000000 * 65536 := by rw [← Int.natCast_mul]; exact Int.ofNat_le.2 this
      have e : (2 : Int) ^ 48 = 281474976710656 := rfl
      rw [e]; omega
    simp only [ht0, ht1, List.getElem?_toArray, List.getElem?_cons_zero, List.getElem?_cons_succ, Sem.run_bind, run_underlying (tab_desc hT hd), Result.andThen_ok, tab_size hT hi, run_underlying (tab_desc hT hdx), Sem.run_pure, if_true, asInt, asIntOf, hw, hneg, if_false, hti, hbig, Int.toNat_natCast, Bool.not_true, Bool.false_eq_true]
    by_cases hz0 : n * i.size = 0
    · have hn0 : n = 0 := by rcases Nat.mul_eq_zero.1 hz0 with h | h <;> omega
      subst hn0
      have hze : (Builtin.zeroCells z.cells 0).toList = [] := by simp [Builtin.zeroCells]
      simp only [hin, if_true, Nat.zero_mul, Sem.run_bind, Sem.run_pure, Result.andThen_ok, hze]
      cases base <;> simp [storeCells]
    · simp only [hin, if_true, hz0, if_false, Sem.run_bind, hz, Sem.run_pure, Result.andThen_ok]
      cases base <;> simp
/-- Into a new row. -/
theorem append_grow {w : World} {ts : Array TypeId} {t xt e ty : Nat} (ht0 : ts[0]? = some t) (ht1 : ts[1]? = some xt) {i : TI} {y' : Value} {base : Option Addr} {len cap n : Nat} {us old : List Value} (hd : T.desc t = some (.slice e)) (hi : T.ti e = some i) (hb : i.bytes ≤ 65536) (h1 : 1 ≤ i.size)
    (hadd : Adds P T w xt e i y' n us) (hul : us.length = n * i.size) (hin : ¬ len + n ≤ cap) (hsm : len + n ≤ 1000000) (hzc : i.zero.cells.isSome = true)
    (hold : ∀ w1 : World, (∀ k : Nat, w1.heap[k]? = w.heap[k]?) → (Builtin.firstCells i.size len (.slice base len cap)).run P w1 = .ok old.toArray w1) (hol : old.length = len * i.size) :
    ∃ (c : Nat) (row : Array Value) (rest : List Value), (Builtin.append_ ts ty #[.slice base len cap, y']).run P w = .ok (.slice (some ⟨w.heap.size, 0, none⟩) (len + n) c) (w.drew.alloc (.cells row e)) ∧
      row.toList = (old ++ us) ++ rest ∧ row.size = c * i.size := by
  obtain ⟨info, hi1, hi2, hi3⟩ := hT.info e i hi
  have hti : ∀ w1, (typeInfo e).run P w1 = .ok info w1 := fun w1 => by simp [typeInfo, hi1]
  obtain ⟨l, hl⟩ := Option.isSome_iff_exists.1 hzc
  obtain ⟨z, hz0, _, hzs, _⟩ := tab_zero hT hi hl w ⟨fun _ => none, fun _ _ => undef, 0⟩
  have hz : ∀ w1, (zeroValue e).run P w1 = .ok z w1 := fun w1 => by
    obtain ⟨info', z', g1, g2, g3, g4⟩ := hT.zero e i hi
    have : z' = z := by
      have : (zeroValue e).run P w = .ok z' w := by simp [zeroValue, typeInfo, g1, g2]
      rw [this] at hz0; cases hz0; rfl
    subst this
    simp [zeroValue, typeInfo, g1, g2]
  have hneed : ¬ (((len + n : Nat) : Int) > IntKind.i64.max) := by
    have : IntKind.i64.max = 9223372036854775807 := by decide
    rw [this]; omega
  have hcapb : ¬ (Builtin.nextslicecap (len + n) cap * info.bytes > 2 ^ 48) := by
    have h2 := nextcap_le (len + n) cap (by omega)
    rw [hi3]
    have h3 : Builtin.nextslicecap (len + n) cap * i.bytes ≤ 2000768 * 65536 := Nat.mul_le_mul (by omega) hb
    have e48 : (2 : Nat) ^ 48 = 281474976710656 := rfl
    rw [e48]; omega
  have hnf : (Question.appendCap (len + n) cap e).forced = false := rfl
  obtain ⟨c, hc⟩ : ∃ c, c = (Question.appendCap (len + n) cap e).cut (w.tape w.drawn (Question.appendCap (len + n) cap e)) := ⟨_, rfl⟩
  have hcl : len + n ≤ c := by rw [hc]; simp [Question.cut]
  have hchoose : (choose (.appendCap (len + n) cap e)).run P w = .ok c w.drew := by
    rw [hc]; rfl
  have hw1 : ∀ k : Nat, w.drew.heap[k]? = w.heap[k]? := fun _ => rfl
  have fin : (Builtin.append_ ts ty #[.slice base len cap, y']).run P w = .ok (.slice (some ⟨w.heap.size, 0, none⟩) (len + n) c) (w.drew.alloc (.cells (old.toArray ++ us.toArray ++ Builtin.zeroCells z.cells (c - (len + n))) e)) := by
    unfold Builtin.append_
    rcases hadd with ⟨⟨d, hdx, hnd⟩, hlen, hcells⟩ | ⟨k, kd, z', hdx, rfl, hn, hz', rfl⟩
    · simp only [ht0, ht1, List.getElem?_toArray, List.getElem?_cons_zero, List.getElem?_cons_succ, Sem.run_bind, run_underlying (tab_desc hT hd), Result.andThen_ok, tab_size hT hi, run_underlying (tab_desc hT hdx), Sem.run_pure]
      cases d <;> first | exact hnd.elim | skip
      all_goals
        simp only [Bool.false_eq_true, if_false, hlen, Result.andThen_ok, hin, Sem.run_bind, Bool.not_false, hti, hneed, false_and, hcapb, hchoose, run_askRoom, hold _ hw1, hcells _ hw1, hz, if_true, Go.newRow, run_newObj, Sem.run_pure]
        rfl
    · have hw := wrap64_small (n := n) (by omega)
      have hneg : ¬ ((n : Int) < 0) := by omega
      have hbig : ¬ ((n : Int) * (info.bytes : Int) > 2 ^ 48) := by
        rw [hi3]
        have : n * i.bytes ≤ 1000000 * 65536 := Nat.mul_le_mul hn hb
        have h2 : (n : Int) * (i.bytes : Int) ≤ 1000000 * 65536 := by rw [← Int.natCast_mul]; exact Int.ofNat_le.2 this
        have e48 : (2 : Int) ^ 48 = 281474976710656 := rfl
        rw [e48]; omega
      have hzz : z' = z := by have := hz' w; rw [hz w] at this; cases this; rfl
      subst hzz
      simp only [ht0, ht1, List.getElem?_toArray, List.getElem?_cons_zero, List.getElem?_cons_succ, Sem.run_bind, run_underlying (tab_desc hT hd), Result.andThen_ok, tab_size hT hi, run_underlying (tab_desc hT hdx), Sem.run_pure, if_true, asInt, asIntOf, hw, hneg, if_false, hti, hbig, Int.toNat_natCast, Bool.not_true, Bool.false_eq_true, hin, hneed, false_and, hcapb, hchoose, run_askRoom, hold _ hw1]
      by_cases hz0 : n * i.size = 0
      · have hn0 : n = 0 := by rcases Nat.mul_eq_zero.1 hz0 with h | h <;> omega
        subst hn0
        have hze : (Builtin.zeroCells z'.cells 0) = #[] := by simp [Builtin.zeroCells]
        simp only [Nat.zero_mul, if_true, Sem.run_pure, Result.andThen_ok, hz, Go.newRow, Sem.run_bind, run_newObj, hze]
        simp
        rfl
      · simp only [hz0, if_false, Sem.run_bind, hz', hz, Sem.run_pure, Result.andThen_ok, Go.newRow, run_newObj]
        simp
        rfl
  refine ⟨c, _, (Builtin.zeroCells z.cells (c - (len + n))).toList, fin, by simp, ?_⟩
  simp only [Array.size_append, List.size_toArray, zeroCells_len, hol, hul, hzs]
  rw [← Nat.add_mul, ← Nat.add_mul]
  congr 1
  omega
/-- A cell of which not more is known than what it is. -/
def okC (u : Bool) (v : Value) : Prop := v.oneCell' = true ∧ (u = true → ∃ n : Nat, v = .int .u8 n ∧ n < 256)
omit hT in
theorem fit8_ok {E : Env} : ∀ {cs : List AV} {vs : List Value}, fit8 cs = true → Rls E cs vs → ∀ v ∈ vs, okC true v
  | [], _, _, .nil, v, hv => by cases hv
  | a :: r, _, h, .cons ha hr, v, hv => by
    unfold fit8 at h
    split at h
    · rename_i heq; cases heq
    · rename_i n r2 heq
      cases heq
      cases hb : Nat.ble n 255 <;> rw [hb] at h <;> simp only [cond_true, cond_false] at h
      case false => cases h
      rcases List.mem_cons.1 hv with rfl | hv
      · cases ha
        exact ⟨rfl, fun _ => ⟨n, rfl, by have := Nat.le_of_ble_eq_true hb; omega⟩⟩
      · exact fit8_ok h hr v hv
    · rename_i r2 heq
      cases heq
      rcases List.mem_cons.1 hv with rfl | hv
      · cases ha with
        | anyi hk =>
          rename_i n
          obtain ⟨h1, h2⟩ := (wrap_iff .u8 n).1 hk
          have e1 : IntKind.u8.min = 0 := by decide
          have e2 : IntKind.u8.max = 255 := by decide
          exact ⟨rfl, fun _ => ⟨n.toNat, by rw [Int.toNat_of_nonneg (by omega)], by omega⟩⟩
      · exact fit8_ok h hr v hv
    · cases h
omit hT in
theorem one_ok {E : Env} {cs : List AV} {vs : List Value} (h : allOne cs = true) (hr : Rls E cs vs) : ∀ v ∈ vs, okC false v := fun v hv => ⟨hr.one h v hv, fun e => by cases e⟩
omit hT in
theorem rel_ahead {E : Env} {s : St} {w : World} (R : Rel E s w) (F : Fresh E s) (o : AO) : Rel E (s.new o) w ∧ Fresh E (s.new o) ∧ Step E s w E (s.new o) w := by
  have key : ∀ c oc lc, (s.new o).h.get c = some oc → E c = some lc → s.h.get c = some oc := fun c oc lc hc hE => by
    simp only [St.new, Tr.get_set] at hc
    by_cases h : c = s.nx
    · subst h; rw [F _ (Nat.le_refl _)] at hE; cases hE
    · rwa [if_neg h] at hc
  refine ⟨⟨fun c oc lc hc hlc => R.obj c oc lc (key _ _ _ hc hlc) hlc, fun c d oc od lc ld hc hd hEc hEd hg => R.inj c d oc od lc ld (key _ _ _ hc hEc) (key _ _ _ hd hEd) hEc hEd hg, R.facts⟩, fun c hc => F c (by simp only [St.new] at hc; omega), ?_⟩
  exact ⟨.refl E, Nat.le_refl _, rfl, rfl, rfl, fun _ _ _ => rfl, fun b o l h e => .inr ⟨b, o, l, key _ _ _ h e, e, rfl⟩, Nat.le_succ _, fun _ _ h => h⟩
/-- Appended to nothing: how much is not known. -/
theorem append_unk0 {E : Env} {s : St} {w : World} (R : Rel E s w) (F : Fresh E s) {ts : Array TypeId} {t xt e ty n : Nat} (ht0 : ts[0]? = some t) (ht1 : ts[1]? = some xt) {i : TI} {y' : Value} {us : List Value} (hd : T.desc t = some (.slice e)) (hi : T.ti e = some i) (hb : i.bytes ≤ 65536) (h1 : 1 ≤ i.size)
    (hzc : i.zero.cells.isSome = true) (hadd : Adds P T w xt e i y' n us) (hul : us.length = n * i.size) {u : Bool} (hus : ∀ v ∈ us, okC u v) (hsm : n ≤ 1000000) {g : Bool} {m : Nat} (hg : n ≤ E.ub g m) (a : Option Addr) :
    Gives P E s w (Builtin.append_ ts ty #[.slice a 0 0, y']) (.slu s.nx i.size g m) (s.new (.junk u i.size)) := by
  by_cases hn : n = 0
  · subst hn
    have : us = [] := List.length_eq_zero_iff.1 (by simpa using hul)
    subst this
    obtain ⟨R', F', S'⟩ := rel_ahead R F (.junk u i.size)
    refine ⟨E, w, .slice a 0 0, ?_, S', R', F', .slue _ _ _ _ _⟩
    rw [append_in hT ht0 ht1 hd hi hb h1 hadd hul (Nat.le_refl _)]
    cases a <;> simp [storeCells]
  · obtain ⟨c, row, rest, hrun, hrow, hrs⟩ := append_grow hT (ty := ty) (len := 0) (cap := 0) (base := a) (old := []) ht0 ht1 hd hi hb h1 hadd hul (by omega) (by omega) hzc (fun w1 _ => by cases a <;> simp [Builtin.firstCells, loadCells, loadCellsFrom]) (by simp)
    simp only [Nat.zero_add, List.nil_append] at hrun hrow
    have hlr : us.length ≤ row.size := by
      have : row.toList.length = us.length + rest.length := by rw [hrow, List.length_append]
      simp only [Array.length_toList] at this; omega
    have hnc : n ≤ c := Nat.le_of_mul_le_mul_right (c := i.size) (by omega) h1
    obtain ⟨R', F', S'⟩ := R.drew.new F (o := .junk u i.size) (ob := .cells row e) (l := ⟨w.drew.heap.size, 0, row.size, n * i.size⟩) rfl
      ⟨row, e, heap_alloc_here w.drew _, rfl, fun j hj => by
        have hj' : j < n * i.size := hj
        have : row[0 + j]? = us[j]? := by
          rw [← Array.getElem?_toList, hrow, Nat.zero_add, List.getElem?_append_left (by omega)]
        have hju : j < us.length := by omega
        refine ⟨us[j], by rw [this, List.getElem?_eq_getElem hju], hus _ (List.getElem_mem hju)⟩⟩
    exact ⟨_, _, _, hrun, (Step.drew E s w).trans S', R', F', .slu (l := ⟨w.drew.heap.size, 0, row.size, n * i.size⟩) (Env.set_same _ _) hg hnc (by simp [hrs]) (Nat.le_refl _)⟩
/-- Appended to a row: how much is not known. -/
theorem append_unk {E : Env} {s : St} {w : World} (R : Rel E s w) (F : Fresh E s) {ts : Array TypeId} {t xt e ty n : Nat} (ht0 : ts[0]? = some t) (ht1 : ts[1]? = some xt) {i : TI} {y' : Value} {us : List Value} (hd : T.desc t = some (.slice e)) (hi : T.ti e = some i) (hb : i.bytes ≤ 65536) (h1 : 1 ≤ i.size)
    (hzc : i.zero.cells.isSome = true) (hadd : Adds P T w xt e i y' n us) (hul : us.length = n * i.size) {u : Bool} (hus : ∀ v ∈ us, okC u v) {len cap sh b : Nat} {o : AO} {l : Loc} {row : Array Value} {rty : TypeId} (hbo : s.h.get b = some o) (hE : E b = some l) (hw : w.heap[l.g]? = some (.cells row rty (0, 0)))
    (hc : cap * i.size + sh ≤ row.size) (hl : len ≤ cap) (hv : ∀ j, j < len * i.size → ∃ v, row[sh + j]? = some v ∧ okC u v) (hsm : len + n ≤ 1000000) {g : Bool} {m : Nat} (hg : len + n ≤ E.ub g m) :
    Gives P E s w (Builtin.append_ ts ty #[.slice (some ⟨l.g, sh, none⟩) len cap, y']) (.slu s.nx i.size g m) ((s.new (.junk u i.size)).drop b) := by
  have hlc : len * i.size ≤ cap * i.size := Nat.mul_le_mul_right _ hl
  have hadd2 : (len + n) * i.size = len * i.size + us.length := by rw [hul, Nat.add_mul]
  by_cases hcap : len + n ≤ cap
  · have hmul : (len + n) * i.size ≤ cap * i.size := Nat.mul_le_mul_right _ hcap
    have hst := run_storeCells_at (P := P) l.g (sh + len * i.size) rty us 0 row w hw (by omega) (fun x hx => (hus x hx).1)
    simp only [Nat.add_zero] at hst
    let row' : Array Value := (row.toList.take (sh + len * i.size) ++ us ++ row.toList.drop (sh + len * i.size + us.length)).toArray
    have hrs : row'.size = row.size := by
      simp only [row', List.size_toArray, List.length_append, List.length_take, List.length_drop, Array.length_toList]; omega
    have hok' : ROk (E.set s.nx ⟨l.g, sh, row.size, (len + n) * i.size⟩) ⟨l.g, sh, row.size, (len + n) * i.size⟩ (w.setRow l.g row') (.junk u i.size) := by
      refine ⟨row', rty, setRow_heap w l.g row _ rty (0, 0) hw, hrs, fun j hj => ?_⟩
      have hj' : j < (len + n) * i.size := hj
      by_cases hjl : j < len * i.size
      · obtain ⟨v, h2, h3⟩ := hv j hjl
        refine ⟨v, ?_, h3⟩
        rw [← Array.getElem?_toList]
        show (row.toList.take (sh + len * i.size) ++ us ++ row.toList.drop (sh + len * i.size + us.length))[sh + j]? = _
        rw [List.append_assoc, List.getElem?_append_left (by simp only [List.length_take, Array.length_toList]; omega), List.getElem?_take_of_lt (by omega), Array.getElem?_toList]
        exact h2
      · have hju : j - len * i.size < us.length := by omega
        refine ⟨us[j - len * i.size], ?_, hus _ (List.getElem_mem hju)⟩
        rw [← Array.getElem?_toList]
        show (row.toList.take (sh + len * i.size) ++ us ++ row.toList.drop (sh + len * i.size + us.length))[sh + j]? = _
        have htl : (row.toList.take (sh + len * i.size)).length = sh + len * i.size := by simp only [List.length_take, Array.length_toList]; omega
        rw [List.append_assoc, List.getElem?_append_right (by omega), htl, List.getElem?_append_left (by omega)]
        have : sh + j - (sh + len * i.size) = j - len * i.size := by omega
        rw [this, List.getElem?_eq_getElem hju]
    obtain ⟨R', F', S'⟩ := rel_swap (w' := w.setRow l.g row') R F hbo hE (l' := ⟨l.g, sh, row.size, (len + n) * i.size⟩) rfl (fun k hk => setRow_other w l.g k _ hk) (by simp) rfl rfl rfl hok'
    refine ⟨_, _, .slice (some ⟨l.g, sh, none⟩) (len + n) cap, ?_, S', R', F', .slu (l := ⟨l.g, sh, row.size, (len + n) * i.size⟩) (Env.set_same _ _) hg hcap hc (Nat.le_refl _)⟩
    rw [append_in hT ht0 ht1 hd hi hb h1 hadd hul hcap]
    simp only [addr_add, hst, Result.andThen_ok]
    rfl
  · let old : List Value := (row.toList.drop sh).take (len * i.size)
    have hol : old.length = len * i.size := by simp only [old, List.length_take, List.length_drop, Array.length_toList]; omega
    have hget : ∀ j, j < len * i.size → old[j]? = row[sh + j]? := by
      intro j hj
      simp only [old]
      rw [List.getElem?_take_of_lt hj, List.getElem?_drop, Array.getElem?_toList]
    have hold : ∀ w1 : World, (∀ k : Nat, w1.heap[k]? = w.heap[k]?) → (Builtin.firstCells i.size len (.slice (some ⟨l.g, sh, none⟩) len cap)).run P w1 = .ok old.toArray w1 := by
      intro w1 hw1
      simp only [Builtin.firstCells]
      have := run_loadCells_list (P := P) w1 ⟨l.g, sh, none⟩ old (fun j v hj => by
        rw [addr_add]
        have hjn : j < len * i.size := by
          rcases Nat.lt_or_ge j (len * i.size) with h | h
          · exact h
          · rw [List.getElem?_eq_none (by omega)] at hj; cases hj
        rw [cell_of_row w1 l.g (sh + j) row rty (0, 0) (by rw [hw1]; exact hw), ← hget j hjn]
        exact hj)
      rw [hol] at this
      exact this
    obtain ⟨c, row', rest, hrun, hrow, hrs⟩ := append_grow hT (ty := ty) ht0 ht1 hd hi hb h1 hadd hul hcap hsm hzc hold hol
    have hlr : (old ++ us).length ≤ row'.size := by
      have : row'.toList.length = (old ++ us).length + rest.length := by rw [hrow, List.length_append]
      simp only [Array.length_toList] at this; omega
    have hlen2 : (old ++ us).length = (len + n) * i.size := by rw [List.length_append, hol, hadd2]
    have hnc : len + n ≤ c := Nat.le_of_mul_le_mul_right (c := i.size) (by omega) h1
    obtain ⟨R', F', S'⟩ := R.drew.new F (o := .junk u i.size) (ob := .cells row' e) (l := ⟨w.drew.heap.size, 0, row'.size, (len + n) * i.size⟩) rfl
      ⟨row', e, heap_alloc_here w.drew _, rfl, fun j hj => by
        have hj' : j < (len + n) * i.size := hj
        have h5 : row'[0 + j]? = (old ++ us)[j]? := by
          rw [← Array.getElem?_toList, hrow, Nat.zero_add, List.getElem?_append_left (by omega)]
        by_cases hjl : j < len * i.size
        · obtain ⟨v, h2, h3⟩ := hv j hjl
          exact ⟨v, by rw [h5, List.getElem?_append_left (by omega), hget j hjl, h2], h3⟩
        · have hju : j - len * i.size < us.length := by omega
          exact ⟨us[j - len * i.size], by rw [h5, List.getElem?_append_right (by omega), hol, List.getElem?_eq_getElem hju], hus _ (List.getElem_mem hju)⟩⟩
    exact ⟨_, _, _, hrun, step_del ((Step.drew E s w).trans S') b, rel_del R' b, F', .slu (l := ⟨w.drew.heap.size, 0, row'.size, (len + n) * i.size⟩) (Env.set_same _ _) hg hnc (by simp [hrs]) (Nat.le_refl _)⟩
omit hT in
theorem Gives.drop {E : Env} {s s' : St} {w : World} {r : Sem Value} {v : AV} (h : Gives P E s w r v s') (b : Nat) : Gives P E s w r v (s'.drop b) := by
  obtain ⟨E', w', v', h1, h2, h3, h4, h5⟩ := h
  exact ⟨E', w', v', h1, step_del h2 b, rel_del h3 b, h4, h5⟩
/-- Appended to a slice of which little is known. -/
theorem append_slu {E : Env} {s : St} {w : World} (R : Rel E s w) (F : Fresh E s) {ts : Array TypeId} {t xt e ty n : Nat} (ht0 : ts[0]? = some t) (ht1 : ts[1]? = some xt) {i : TI} {x' y' : Value} {us : List Value} (hd : T.desc t = some (.slice e)) (hi : T.ti e = some i) (hb : i.bytes ≤ 65536) (h1 : 1 ≤ i.size)
    (hzc : i.zero.cells.isSome = true) (hadd : Adds P T w xt e i y' n us) (hul : us.length = n * i.size) {u : Bool} (hus : ∀ v ∈ us, okC u v) {b z m m' : Nat} {g h : Bool} (hx : Rl E (.slu b i.size g m) x') (hget : s.h.get b = some (.junk u z)) (hm : m ≤ 900000) (hsm : m + baseMax + n ≤ 1000000)
    (hub : ∀ k, k ≤ E.ub g m → k + n ≤ E.ub h m') :
    Gives P E s w (Builtin.append_ ts ty #[x', y']) (.slu s.nx i.size h m') ((s.new (.junk u i.size)).drop b) := by
  cases hx with
  | slu hE hmm hmc hn hvv =>
    rename_i len cap l
    obtain ⟨l', hl', row, rty, k1, k2, k3⟩ := R.at hE hget
    rw [hE] at hl'; cases hl'
    have hl2 : len ≤ m + baseMax := by
      have := ub_max R.facts g m
      have h5 : ubMax g m ≤ m + baseMax := by unfold ubMax; cases g <;> simp
      omega
    exact append_unk hT R F ht0 ht1 hd hi hb h1 hzc hadd hul hus hget hE k1 (by omega) hmc (fun j hj => k3 j (by omega)) (by omega) (hub _ hmm)
  | slue _ _ _ _ a =>
    exact (append_unk0 hT R F ht0 ht1 hd hi hb h1 hzc hadd hul hus (by omega) (by have := hub 0 (Nat.zero_le _); simpa using this) a).drop b
/-- append of bytes of which not more is known than how many they may be. -/
theorem g_appendU {E : Env} {s s' : St} {w : World} (R : Rel E s w) (F : Fresh E s) {ts : Array TypeId} {t xt e ty n : Nat} (ht0 : ts[0]? = some t) (ht1 : ts[1]? = some xt) {i : TI} {x v : AV} {x' y' : Value} {us : List Value} (hd : T.desc t = some (.slice e)) (hi : T.ti e = some i) (hb : i.bytes ≤ 65536) (h1 : i.size = 1)
    (hzc : i.zero.cells.isSome = true) (hadd : Adds P T w xt e i y' n us) (hul : us.length = n) (hus : ∀ v ∈ us, okC true v) (hx : Rl E x x') {hh : Bool} {k : Nat} (hn : n ≤ E.ub hh k) (h : oAppendU s x hh k = some (v, s')) :
    Gives P E s w (Builtin.append_ ts ty #[x', y']) v s' := by
  have hul' : us.length = n * i.size := by rw [h1]; simpa using hul
  unfold oAppendU at h
  cases hk : Nat.ble k 400000 <;> rw [hk] at h <;> simp only [cond_true, cond_false] at h
  case false => cases h
  have hk' := Nat.le_of_ble_eq_true hk
  have hbm : baseMax = 50000 := rfl
  have hn2 : n ≤ 450000 := by
    have := ub_max R.facts hh k
    have h5 : ubMax hh k ≤ k + baseMax := by unfold ubMax; cases hh <;> simp
    omega
  split at h
  · cases h; cases hx
    have := append_unk0 hT (P := P) (ty := ty) R F ht0 ht1 hd hi hb (by omega) hzc hadd hul' hus (by omega) hn none
    rw [h1] at this
    exact this
  · cases h
    cases hx with
    | sl0 a =>
      have := append_unk0 hT (P := P) (ty := ty) R F ht0 ht1 hd hi hb (by omega) hzc hadd hul' hus (by omega) hn a
      rw [h1] at this
      exact this
  · cases h
    cases hx with
    | sl _ _ _ hE hl =>
      rename_i b off l
      have := append_unk0 hT (P := P) (ty := ty) R F ht0 ht1 hd hi hb (by omega) hzc hadd hul' hus (by omega) hn (some ⟨l.g, l.sh + off, none⟩)
      rw [h1] at this
      exact this
  · rename_i b off len
    split at h
    · rename_i cs sz hrow
      cases hbb : (Nat.beq sz 1 && Nat.ble (off + len) (lenL cs) && fit8 (cutL off len cs) && Nat.ble len 400000) <;> rw [hbb] at h <;> simp only [cond_true, cond_false] at h
      case false => cases h
      cases h
      simp only [Bool.and_eq_true, Nat.ble_eq, lenL_eq] at hbb
      obtain ⟨⟨⟨b1, b2⟩, b3⟩, b4⟩ := hbb
      have b1' := Nat.eq_of_beq_eq_true b1
      subst b1'
      cases hx with
      | slo _ _ c hE hc hl =>
        rename_i ll
        obtain ⟨l', hl', hok⟩ := R.at hE (rowAt_eq hrow)
        rw [hE] at hl'; cases hl'
        obtain ⟨k1, k2, row, rty, pre, vs, post, k3, k4, k5, k6, k7⟩ := hok
        have hsize : row.size = pre.length + vs.length + post.length := by rw [← Array.length_toList, k4]; simp; omega
        have hly := k6.length
        have hcut : Rls E (cutL off len cs) ((vs.drop off).take len) := k6.cut off _
        have hfit := fit8_ok b3 hcut
        rw [k1] at hc
        have := append_unk hT (P := P) (ty := ty) R F ht0 ht1 hd hi hb (by omega) hzc hadd hul' hus (len := len) (cap := c) (sh := ll.sh + off) (rowAt_eq hrow) hE k3 (by rw [h1]; omega) hl (fun j hj => by
          rw [h1, Nat.mul_one] at hj
          have hj2 : off + j < vs.length := by omega
          refine ⟨vs[off + j], ?_, hfit _ ?_⟩
          · rw [← Array.getElem?_toList, k4, List.append_assoc, List.getElem?_append_right (by omega), ← k5]
            have : pre.length + off + j - pre.length = off + j := by omega
            rw [this, List.getElem?_append_left hj2, List.getElem?_eq_getElem hj2]
          · have : ((vs.drop off).take len)[j]? = some vs[off + j] := by
              rw [List.getElem?_take_of_lt hj, List.getElem?_drop, List.getElem?_eq_getElem hj2]
            exact List.mem_of_getElem? this) (by omega) (g := hh) (m := len + k) (by
          unfold Env.ub at hn ⊢
          cases hh <;> simp at hn ⊢ <;> omega)
        rw [h1] at this
        exact this
    · cases h
  · rename_i b z g m
    split at h
    · rename_i z' hget
      cases hbb : (Nat.beq z 1 && Nat.beq z' 1 && Nat.ble m 400000 && (bif g then !hh else true)) <;> rw [hbb] at h <;> simp only [cond_true, cond_false] at h
      case false => cases h
      cases h
      simp only [Bool.and_eq_true, Nat.ble_eq] at hbb
      obtain ⟨⟨⟨b1, b2⟩, b3⟩, b4⟩ := hbb
      have b1' := Nat.eq_of_beq_eq_true b1
      subst b1'
      rw [← h1] at hx
      have := append_slu hT (P := P) (ty := ty) R F ht0 ht1 hd hi hb (by omega) hzc hadd hul' hus hx hget (h := bif g then true else hh) (m' := m + k) (by omega) (by omega) (by
        intro q hq
        unfold Env.ub at hn hq ⊢
        cases g <;> cases hh <;> simp at hn hq b4 ⊢ <;> omega)
      rw [h1] at this
      exact this
    · cases h
  · cases h
theorem g_append {E : Env} {s s' : St} {w : World} (R : Rel E s w) (F : Fresh E s) {ts : Array TypeId} {t xt e ty n : Nat} (ht0 : ts[0]? = some t) (ht1 : ts[1]? = some xt) {i : TI} {x v : AV} {x' y' : Value} {new : List AV} {us : List Value} (hd : T.desc t = some (.slice e)) (hi : T.ti e = some i) (hb : i.bytes ≤ 65536) (h1 : 1 ≤ i.size)
    (hzc : i.zero.cells.isSome = true) (hadd : Adds P T w xt e i y' n us) (hul : us.length = n * i.size) (hnew : Rls E new us) (hx : Rl E x x') (h : oAppend i.size i.bytes s x new n = some (v, s')) :
    Gives P E s w (Builtin.append_ ts ty #[x', y']) v s' := by
  unfold oAppend at h
  cases hn0 : Nat.beq n 0 <;> rw [hn0] at h <;> simp only [cond_true, cond_false] at h
  case true =>
    have := Nat.eq_of_beq_eq_true hn0
    subst this
    have hus : us = [] := List.length_eq_zero_iff.1 (by rw [hul]; simp)
    subst hus
    split at h
    · cases h; cases hx
      exact .ret R F (v' := .slice none 0 0) (by rw [append_in hT ht0 ht1 hd hi hb h1 hadd hul (Nat.le_refl _)]) .nils
    · cases h
      cases hx with
      | slz a c => exact .ret R F (v' := .slice (some a) 0 c) (by rw [append_in hT ht0 ht1 hd hi hb h1 hadd hul (by omega)]; simp [storeCells]) (.slz a c)
    · cases h
      cases hx with
      | sl _ _ _ hE hl => rename_i bb o n1 c l; exact .ret R F (v' := .slice (some ⟨l.g, l.sh + o, none⟩) n1 c) (by rw [append_in hT ht0 ht1 hd hi hb h1 hadd hul (by omega)]; simp [storeCells]) (.sl o n1 c hE hl)
    · cases h
      cases hx with
      | slo _ _ c hE hc hl => rename_i bb o n1 l; exact .ret R F (v' := .slice (some ⟨l.g, l.sh + o, none⟩) n1 c) (by rw [append_in hT ht0 ht1 hd hi hb h1 hadd hul (by omega)]; simp [storeCells]) (.slo o n1 c hE hc hl)
    · cases h
      cases hx with
      | slu hE hm hc hn hv => rename_i m c l; exact .ret R F (v' := .slice (some ⟨l.g, l.sh, none⟩) m c) (by rw [append_in hT ht0 ht1 hd hi hb h1 hadd hul (by omega)]; simp [storeCells]) (.slu hE hm hc hn hv)
      | slue _ _ _ _ a => exact .ret R F (v' := .slice a 0 0) (by rw [append_in hT ht0 ht1 hd hi hb h1 hadd hul (by omega)]; cases a <;> simp [storeCells]) (.slue _ _ _ _ a)
    · cases h
      cases hx with
      | sl0 a => exact .ret R F (v' := .slice a 0 0) (by rw [append_in hT ht0 ht1 hd hi hb h1 hadd hul (by omega)]; cases a <;> simp [storeCells]) (.sl0 a)
    · cases h
  case false =>
    have hn : n ≠ 0 := fun e => by subst e; cases hn0
    -- into a new row
    have grow : ∀ {base : Option Addr} {len cap : Nat} {old : List AV} {old' : List Value} (s1 : St), newRow s (some (old ++ new)) i.size = some s1 → x' = .slice base len cap → ¬ len + n ≤ cap → len + n ≤ 1000000 →
        (∀ w1 : World, (∀ k : Nat, w1.heap[k]? = w.heap[k]?) → (Builtin.firstCells i.size len (.slice base len cap)).run P w1 = .ok old'.toArray w1) → old'.length = len * i.size → Rls E old old' →
        Gives P E s w (Builtin.append_ ts ty #[x', y']) (.slo s.nx 0 (len + n)) s1 := by
      intro base len cap old old' s1 hs1 hx' hin hsm hold hol hro
      subst hx'
      obtain ⟨c, row, rest, hrun, hrow, hrs⟩ := append_grow hT (ty := ty) ht0 ht1 hd hi hb h1 hadd hul hin hsm hzc hold hol
      obtain ⟨cs, hcs, hone, rfl⟩ := newRow_eq hs1
      cases hcs
      obtain ⟨R', F', S'⟩ := new_row R.drew F (sz := i.size) hone (hro.append hnew) rest e row hrow
      refine ⟨_, _, _, hrun, (Step.drew E s w).trans S', R', F', .slo (l := ⟨w.drew.heap.size, 0, row.size, i.size⟩) 0 (len + n) c (Env.set_same _ _) (by simp [hrs]) ?_⟩
      have hlr : (old' ++ us).length ≤ row.size := by
        have : row.toList.length = (old' ++ us).length + rest.length := by rw [hrow, List.length_append]
        simp only [Array.length_toList] at this; omega
      have h2 : (len + n) * i.size ≤ c * i.size := by
        have : (old' ++ us).length = (len + n) * i.size := by rw [List.length_append, hol, hul, Nat.add_mul]
        omega
      exact Nat.le_of_mul_le_mul_right h2 h1
    split at h
    · -- sl0
      cases hsm : Nat.ble n 1000000 <;> rw [hsm] at h <;> simp only [cond_true, cond_false] at h
      case false => cases h
      split at h
      · rename_i s1 hs1
        cases h
        cases hx with
        | sl0 a =>
          have := grow (base := a) (len := 0) (cap := 0) (old := []) (old' := []) s' (by simpa using hs1) rfl (by omega) (by have := Nat.le_of_ble_eq_true hsm; omega) (fun w1 _ => by cases a <;> simp [Builtin.firstCells, loadCells, loadCellsFrom]) (by simp) .nil
          simpa using this
      · cases h
    · -- slu
      rename_i b z g m
      split at h
      · rename_i u z' hget
        cases hbb : (Nat.beq z i.size && Nat.beq z' i.size && allOne new && (bif u then fit8 new else true) && Nat.ble (m + n) 900000) <;> rw [hbb] at h <;> simp only [cond_true, cond_false] at h
        case false => cases h
        cases h
        simp only [Bool.and_eq_true, Nat.ble_eq] at hbb
        obtain ⟨⟨⟨⟨b1, b2⟩, b3⟩, b4⟩, b5⟩ := hbb
        have b1' := Nat.eq_of_beq_eq_true b1
        subst b1'
        have hus : ∀ v ∈ us, okC u v := by
          cases u
          · exact one_ok b3 hnew
          · exact fit8_ok b4 hnew
        have hbm : baseMax = 50000 := rfl
        exact append_slu hT R F ht0 ht1 hd hi hb h1 hzc hadd hul hus hx hget (by omega) (by omega) (by
          intro q hq
          unfold Env.ub at hq ⊢
          cases g <;> simp at hq ⊢ <;> omega)
      · cases h
    · -- nil
      cases hsm : Nat.ble n 1000000 <;> rw [hsm] at h <;> simp only [cond_true, cond_false] at h
      case false => cases h
      split at h
      · rename_i s1 hs1
        cases h; cases hx
        have := grow (base := none) (len := 0) (cap := 0) (old := []) (old' := []) s' (by simpa using hs1) rfl (by omega) (by have := Nat.le_of_ble_eq_true hsm; omega) (fun w1 _ => by simp [Builtin.firstCells]) (by simp) .nil
        simpa using this
      · cases h
    · -- sl
      rename_i b off len cap
      cases hx with
      | sl _ _ _ hE hl =>
        rename_i ll
        cases hin : Nat.ble (len + n) cap <;> rw [hin] at h <;> simp only [cond_true, cond_false] at h
        · cases hsm : Nat.ble (len + n) 1000000 <;> rw [hsm] at h <;> simp only [cond_true, cond_false] at h
          case false => cases h
          split at h
          · rename_i cs sz hrow
            cases hle : Nat.ble (off + len * i.size) (lenL cs) <;> rw [hle] at h <;> simp only [cond_true, cond_false] at h
            case false => cases h
            split at h
            · rename_i s1 hs1
              cases h
              have hle' := Nat.le_of_ble_eq_true hle
              rw [lenL_eq] at hle'
              obtain ⟨l', hl', hok⟩ := R.at hE (rowAt_eq hrow)
              rw [hE] at hl'; cases hl'
              obtain ⟨us1, g1, g2, g3⟩ := load_cut2 (P := P) hok hle'
              exact grow s' hs1 rfl (fun hh => by rw [Nat.ble_eq_true_of_le hh] at hin; cases hin) (Nat.le_of_ble_eq_true hsm) (fun w1 hw => by simp only [Builtin.firstCells]; exact g3 w1 hw) g2 g1
            · cases h
          · cases h
        · split at h
          · rename_i s1 hs1
            cases h
            obtain ⟨w', g1, g2, g3, g4⟩ := store_at (P := P) R hs1 hE hnew
            refine ⟨E, w', .slice (some ⟨ll.g, ll.sh + off, none⟩) (len + n) cap, ?_, g2, g3, fun c hc => F c (by omega), .sl _ _ _ hE (Nat.le_of_ble_eq_true hin)⟩
            rw [append_in hT ht0 ht1 hd hi hb h1 hadd hul (Nat.le_of_ble_eq_true hin)]
            simp only [addr_add, Nat.add_assoc, g1, Result.andThen_ok]
          · cases h
    · -- slo
      rename_i b off len
      cases hx with
      | slo _ _ c hE hc hl =>
        rename_i ll
        split at h
        · rename_i cs sz hrow
          cases hsz : Nat.beq sz i.size <;> rw [hsz] at h <;> simp only [cond_true, cond_false] at h
          case false => cases h
          have hsz' := Nat.eq_of_beq_eq_true hsz
          subst hsz'
          obtain ⟨l', hl', hok⟩ := R.at hE (rowAt_eq hrow)
          rw [hE] at hl'; cases hl'
          have hok0 := hok
          obtain ⟨k1, k2, row, rty, pre, vs, post, k3, k4, k5, k6, k7⟩ := hok0
          have hlen : ll.sh + cs.length ≤ ll.n := by
            have e1 : row.size = pre.length + vs.length + post.length := by rw [← Array.length_toList, k4]; simp; omega
            have e2 := k6.length
            omega
          rw [k1] at hc
          cases hin : Nat.ble (off + (len + n) * i.size) (lenL cs) <;> rw [hin] at h <;> simp only [cond_true, cond_false] at h
          · cases hle : Nat.ble (off + len * i.size) (lenL cs) <;> rw [hle] at h <;> simp only [cond_true, cond_false] at h
            case false => cases h
            cases hsm : Nat.ble (len + n) 1000000 <;> rw [hsm] at h <;> simp only [cond_true, cond_false] at h
            case false => cases h
            split at h
            · rename_i s1 hs1
              cases h
              have hle' := Nat.le_of_ble_eq_true hle
              rw [lenL_eq] at hle'
              obtain ⟨us1, g1, g2, g3⟩ := load_cut2 (P := P) hok hle'
              obtain ⟨cs1, hcs1, hone, rfl⟩ := newRow_eq hs1
              cases hcs1
              by_cases hcap : len + n ≤ c
              · -- in place: the same row, under a new name
                have hly := k6.length
                have hsize : row.size = pre.length + vs.length + post.length := by rw [← Array.length_toList, k4]; simp; omega
                have hmul : (len + n) * i.size ≤ c * i.size := Nat.mul_le_mul_right _ hcap
                have hadd2 : (len + n) * i.size = len * i.size + us.length := by rw [hul, Nat.add_mul]
                have hst := run_storeCells_at (P := P) ll.g (ll.sh + off + len * i.size) rty us 0 row w k3 (by omega) (fun x hx => hnew.one (by
                  rw [allOne_eq] at hone ⊢
                  intro a ha
                  exact hone a (by simp [ha])) x hx)
                simp only [Nat.add_zero] at hst
                have hcut : Rls E (cutL off (len * i.size) cs) ((vs.drop off).take (len * i.size)) := k6.cut off _
                have hok' : ROk (E.set s.nx ⟨ll.g, ll.sh + off, ll.n, i.size⟩) ⟨ll.g, ll.sh + off, ll.n, i.size⟩ (w.setRow ll.g (row.toList.take (ll.sh + off + len * i.size) ++ us ++ row.toList.drop (ll.sh + off + len * i.size + us.length)).toArray) (.row (cutL off (len * i.size) cs ++ new) i.size) := by
                  refine ⟨rfl, hone, _, rty, row.toList.take (ll.sh + off), (vs.drop off).take (len * i.size) ++ us, row.toList.drop (ll.sh + off + len * i.size + us.length), setRow_heap w ll.g row _ rty (0, 0) k3, ?_, ?_, (hcut.append hnew).mono (Env.le_set _ (F s.nx (Nat.le_refl _))), ?_⟩
                  · simp only [← List.append_assoc]
                    congr 2
                    rw [List.take_add]
                    congr 1
                    rw [k4, ← k5, List.append_assoc, List.drop_append, List.drop_eq_nil_of_le (by omega), List.nil_append, Nat.add_sub_cancel_left, List.drop_append_of_le_length (by omega), List.take_append_of_le_length (by simp; omega)]
                  · simp; omega
                  · simp only [List.size_toArray, List.length_append, List.length_take, List.length_drop, Array.length_toList]
                    show _ = ll.n
                    omega
                obtain ⟨R', F', S'⟩ := rel_swap (w' := w.setRow ll.g (row.toList.take (ll.sh + off + len * i.size) ++ us ++ row.toList.drop (ll.sh + off + len * i.size + us.length)).toArray) R F (rowAt_eq hrow) hE (l' := ⟨ll.g, ll.sh + off, ll.n, i.size⟩) rfl (fun k hk => setRow_other w ll.g k _ hk) (by simp) rfl rfl rfl hok'
                refine ⟨_, _, .slice (some ⟨ll.g, ll.sh + off, none⟩) (len + n) c, ?_, S', R', F', .slo (l := ⟨ll.g, ll.sh + off, ll.n, i.size⟩) 0 (len + n) c (Env.set_same _ _) (by simpa using hc) hcap⟩
                rw [append_in hT ht0 ht1 hd hi hb h1 hadd hul hcap]
                simp only [addr_add, hst, Result.andThen_ok]
              · obtain ⟨E', w', v', r1, r2, r3, r4, r5⟩ := grow _ hs1 rfl hcap (Nat.le_of_ble_eq_true hsm) (fun w1 hw => by simp only [Builtin.firstCells]; exact g3 w1 hw) g2 g1
                exact ⟨E', w', v', r1, step_del r2 b, rel_del r3 b, r4, r5⟩
            · cases h
          · split at h
            · rename_i s1 hs1
              cases h
              have hcap : len + n ≤ c := by
                have h5 := Nat.le_of_ble_eq_true hin
                rw [lenL_eq] at h5
                have : (len + n) * i.size ≤ c * i.size := by omega
                exact Nat.le_of_mul_le_mul_right this h1
              obtain ⟨w', g1, g2, g3, g4⟩ := store_at (P := P) R hs1 hE hnew
              refine ⟨E, w', .slice (some ⟨ll.g, ll.sh + off, none⟩) (len + n) c, ?_, g2, g3, fun c hc => F c (by omega), .slo _ _ c hE (by rw [k1]; exact hc) hcap⟩
              rw [append_in hT ht0 ht1 hd hi hb h1 hadd hul hcap]
              simp only [addr_add, Nat.add_assoc, g1, Result.andThen_ok]
            · cases h
        · cases h
    · cases h
end
end Go.Proofs.YtkmocipdekogkaaGreatDoor
end
