/-
  The plain law of the sum: registers as bit vectors of 32 bits; steps are linear and one-to-one; no program in sight.
-/
import Derived.Laws.BitsLemmas
namespace Go.Proofs.Ytpfmcobphaajlaa

/-- One step of a register, as the program's text reckons it on whole numbers. -/
def stepI (x : Int) : Int := bits .xor .u32 (x / 2) (bits .and .u32 3988292384 (-bits .and .u32 x 1 % 4294967296))
def stepsI : Nat → Int → Int
  | 0, x => x
  | n + 1, x => stepsI n (stepI x)
/-- One step of a register, as the document's answer reckons it. -/
def refStepI (x : Int) : Int := if bits .and .u32 x 1 = 1 then bits .xor .u32 (x / 2) 3988292384 else x / 2

/-- One step of a register. -/
def st (r : BitVec 32) : BitVec 32 := r >>> 1 ^^^ (if r.getLsbD 0 then 3988292384#32 else 0#32)
def sts : Nat → BitVec 32 → BitVec 32
  | 0, r => r
  | n + 1, r => sts n (st r)
/-- A register and a byte. -/
def upd (r : BitVec 32) (x : Int) : BitVec 32 := sts 8 (r ^^^ BitVec.ofInt 32 x)
/-- A register and bytes. -/
def run (r : BitVec 32) (xs : List Int) : BitVec 32 := xs.foldl upd r
/-- The sum of bytes behind others. -/
def more (s : BitVec 32) (xs : List Int) : BitVec 32 := ~~~(run (~~~s) xs)

theorem ofInt_toNat (r : BitVec 32) : BitVec.ofInt 32 (r.toNat : Int) = r := by
  rw [BitVec.ofInt_natCast]; simp

theorem and_one (r : BitVec 32) : r &&& 1#32 = if r.getLsbD 0 then 1#32 else 0#32 := by
  apply BitVec.eq_of_getLsbD_eq
  intro i hi
  rw [BitVec.getLsbD_and, BitVec.getLsbD_one]
  rcases Nat.eq_zero_or_pos i with rfl | hp
  · cases h : r.getLsbD 0 <;> simp
  · have : i ≠ 0 := by omega
    cases h : r.getLsbD 0 <;> simp [this]

theorem wrap_bv (v : BitVec 32) : IntKind.u32.wrap (v.toNat : Int) = (v.toNat : Int) := by
  rw [IntKind.wrap_u32]
  have := v.isLt
  omega
theorem bits_and_bv (a b : BitVec 32) : bits .and .u32 (a.toNat : Int) (b.toNat : Int) = ((a &&& b).toNat : Int) := by
  show IntKind.u32.wrap ((BitVec.ofInt 32 (a.toNat : Int) &&& BitVec.ofInt 32 (b.toNat : Int) : BitVec 32).toNat : Int) = _
  rw [ofInt_toNat, ofInt_toNat, wrap_bv]
theorem bits_xor_int (a : BitVec 32) (x : Int) : bits .xor .u32 (a.toNat : Int) x = ((a ^^^ BitVec.ofInt 32 x).toNat : Int) := by
  show IntKind.u32.wrap ((BitVec.ofInt 32 (a.toNat : Int) ^^^ BitVec.ofInt 32 x : BitVec 32).toNat : Int) = _
  rw [ofInt_toNat, wrap_bv]
theorem bits_xor_bv (a b : BitVec 32) : bits .xor .u32 (a.toNat : Int) (b.toNat : Int) = ((a ^^^ b).toNat : Int) := by
  rw [bits_xor_int, ofInt_toNat]
theorem half (r : BitVec 32) : (r.toNat : Int) / (2 : Int) = ((r >>> 1).toNat : Int) := by
  rw [BitVec.toNat_ushiftRight, Nat.shiftRight_eq_div_pow]; simp
theorem compl_bv (r : BitVec 32) : bits .xor .u32 4294967295 (r.toNat : Int) = ((~~~r).toNat : Int) := by
  have h : (4294967295 : Int) = ((BitVec.allOnes 32).toNat : Int) := by decide
  rw [h, bits_xor_bv, BitVec.allOnes_xor]

theorem stepI_bv (r : BitVec 32) : stepI (r.toNat : Int) = ((st r).toNat : Int) := by
  unfold stepI st
  have h1 : (1 : Int) = ((1#32).toNat : Int) := by decide
  have hp : (3988292384 : Int) = ((3988292384#32).toNat : Int) := by decide
  rw [half]
  conv => lhs; rw [h1, bits_and_bv, and_one]
  cases h : r.getLsbD 0
  · have e : -(((if false = true then 1#32 else 0#32) : BitVec 32).toNat : Int) % 4294967296 = ((0#32).toNat : Int) := by decide
    rw [e, hp, bits_and_bv, bits_xor_bv]; congr 1
  · have e : -(((if true = true then 1#32 else 0#32) : BitVec 32).toNat : Int) % 4294967296 = ((4294967295#32).toNat : Int) := by decide
    rw [e, hp, bits_and_bv, bits_xor_bv]; congr 1

theorem refStepI_bv (r : BitVec 32) : refStepI (r.toNat : Int) = ((st r).toNat : Int) := by
  unfold refStepI st
  have h1 : (1 : Int) = ((1#32).toNat : Int) := by decide
  have hp : (3988292384 : Int) = ((3988292384#32).toNat : Int) := by decide
  rw [half, h1, bits_and_bv, and_one]
  cases h : r.getLsbD 0
  · rw [if_neg (by decide)]; simp
  · rw [if_pos (by decide), hp, bits_xor_bv]; rfl

theorem stepsI_bv (n : Nat) : ∀ r : BitVec 32, stepsI n (r.toNat : Int) = ((sts n r).toNat : Int) := by
  induction n with
  | zero => intro r; rfl
  | succ n ih => intro r; show stepsI n (stepI _) = _; rw [stepI_bv, ih]; rfl
theorem stepsI_snoc (n : Nat) : ∀ x, stepsI (n + 1) x = stepI (stepsI n x) := by
  induction n with
  | zero => intro x; rfl
  | succ n ih => intro x; show stepsI (n + 1) (stepI x) = stepI (stepsI n (stepI x)); rw [ih]
theorem sts_snoc (n : Nat) : ∀ x, sts (n + 1) x = st (sts n x) := by
  induction n with
  | zero => intro x; rfl
  | succ n ih => intro x; show sts (n + 1) (st x) = st (sts n (st x)); rw [ih]
theorem sts_add (m n : Nat) (x : BitVec 32) : sts (m + n) x = sts n (sts m x) := by
  induction n with
  | zero => rfl
  | succ n ih => rw [← Nat.add_assoc, sts_snoc, sts_snoc, ih]

/-! Linear. -/
theorem st_xor (a b : BitVec 32) : st (a ^^^ b) = st a ^^^ st b := by
  unfold st
  rw [BitVec.getLsbD_xor, BitVec.ushiftRight_xor_distrib]
  cases a.getLsbD 0 <;> cases b.getLsbD 0 <;> simp <;> (apply BitVec.eq_of_getLsbD_eq; intro i hi; simp [BitVec.getLsbD_xor]) <;>
    (try (cases (a >>> 1).getLsbD i <;> cases (b >>> 1).getLsbD i <;> cases (3988292384#32).getLsbD i <;> rfl)) <;>
    (try (cases a.getLsbD (1 + i) <;> cases b.getLsbD (1 + i) <;> cases (3988292384#32).getLsbD i <;> simp))
theorem st_zero : st 0#32 = 0#32 := by decide
theorem sts_zero (n : Nat) : sts n 0#32 = 0#32 := by
  induction n with
  | zero => rfl
  | succ n ih => show sts n (st 0#32) = _; rw [st_zero, ih]
theorem sts_xor (n : Nat) : ∀ a b : BitVec 32, sts n (a ^^^ b) = sts n a ^^^ sts n b := by
  induction n with
  | zero => intro a b; rfl
  | succ n ih => intro a b; show sts n (st _) = _; rw [st_xor, ih]; rfl

/-! One-to-one. -/
theorem st_ne (a : BitVec 32) (h : a ≠ 0#32) : st a ≠ 0#32 := by
  intro e
  apply h
  unfold st at e
  cases hb : a.getLsbD 0
  · rw [hb] at e
    simp at e
    apply BitVec.eq_of_getLsbD_eq
    intro i hi
    rcases i with _ | i
    · simpa using hb
    · have := congrArg (fun v => BitVec.getLsbD v i) e
      simp [BitVec.getLsbD_ushiftRight] at this
      rw [Nat.add_comm] at this
      simpa using this
  · rw [hb] at e
    have := congrArg (fun v => BitVec.getLsbD v 31) e
    simp at this
theorem sts_ne (n : Nat) : ∀ a : BitVec 32, a ≠ 0#32 → sts n a ≠ 0#32 := by
  induction n with
  | zero => intro a h; exact h
  | succ n ih => intro a h; exact ih _ (st_ne a h)

/-! Bytes of one length, together. -/
theorem upd_xor (r s : BitVec 32) (x y z : Int) (h : BitVec.ofInt 32 z = BitVec.ofInt 32 x ^^^ BitVec.ofInt 32 y) : upd (r ^^^ s) z = upd r x ^^^ upd s y := by
  unfold upd
  rw [h, ← sts_xor]
  congr 1
  simp only [BitVec.xor_assoc]
  congr 1
  simp only [← BitVec.xor_assoc]
  rw [BitVec.xor_comm s]
theorem run_xor : ∀ (xs ys zs : List Int) (r s : BitVec 32), xs.length = ys.length → zs.length = xs.length →
    (∀ i, i < xs.length → BitVec.ofInt 32 (zs.getD i 0) = BitVec.ofInt 32 (xs.getD i 0) ^^^ BitVec.ofInt 32 (ys.getD i 0)) → run (r ^^^ s) zs = run r xs ^^^ run s ys
  | [], [], [], r, s, _, _, _ => rfl
  | [], _ :: _, _, _, _, h, _, _ => by simp at h
  | [], [], _ :: _, _, _, _, h, _ => by simp at h
  | _ :: _, [], _, _, _, h, _, _ => by simp at h
  | _ :: _, _ :: _, [], _, _, _, h, _ => by simp at h
  | x :: xs, y :: ys, z :: zs, r, s, h1, h2, h => by
    show run (upd (r ^^^ s) z) zs = run (upd r x) xs ^^^ run (upd s y) ys
    rw [upd_xor r s x y z (h 0 (by simp))]
    exact run_xor xs ys zs _ _ (by simpa using h1) (by simpa using h2) fun i hi => by simpa using h (i + 1) (by simpa using hi)

theorem byte_xor (x y : Int) (hx : 0 ≤ x ∧ x ≤ 255) (hy : 0 ≤ y ∧ y ≤ 255) :
    BitVec.ofInt 32 (bits .xor .u8 x y) = BitVec.ofInt 32 x ^^^ BitVec.ofInt 32 y ∧ 0 ≤ bits .xor .u8 x y ∧ bits .xor .u8 x y ≤ 255 := by
  obtain ⟨a, rfl⟩ := Int.eq_ofNat_of_zero_le hx.1
  obtain ⟨b, rfl⟩ := Int.eq_ofNat_of_zero_le hy.1
  have ha : a < 2 ^ 8 := by omega
  have hb : b < 2 ^ 8 := by omega
  have hlt : a ^^^ b < 2 ^ 8 := Nat.xor_lt_two_pow ha hb
  have e : bits .xor .u8 (a : Int) (b : Int) = ((a ^^^ b : Nat) : Int) := by
    show IntKind.u8.wrap ((BitVec.ofInt 8 (a : Int) ^^^ BitVec.ofInt 8 (b : Int) : BitVec 8).toNat : Int) = _
    rw [BitVec.ofInt_natCast, BitVec.ofInt_natCast, IntKind.wrap_u8, BitVec.toNat_xor, BitVec.toNat_ofNat, BitVec.toNat_ofNat, Nat.mod_eq_of_lt ha, Nat.mod_eq_of_lt hb]
    omega
  rw [e]
  refine ⟨?_, by omega, by omega⟩
  rw [BitVec.ofInt_natCast, BitVec.ofInt_natCast, BitVec.ofInt_natCast]
  apply BitVec.eq_of_toNat_eq
  rw [BitVec.toNat_xor, BitVec.toNat_ofNat, BitVec.toNat_ofNat, BitVec.toNat_ofNat, Nat.mod_eq_of_lt (by omega), Nat.mod_eq_of_lt (by omega), Nat.mod_eq_of_lt (by omega)]

/-- The first k places of two texts together, noughts behind. -/
def mix (xs ys : List Int) (k : Nat) : List Int := (List.range xs.length).map fun i => if i < k then bits .xor .u8 (xs.getD i 0) (ys.getD i 0) else 0
theorem mix_length (xs ys : List Int) (k : Nat) : (mix xs ys k).length = xs.length := by simp [mix]
theorem mix_getD (xs ys : List Int) (k i : Nat) (h : i < xs.length) : (mix xs ys k).getD i 0 = if i < k then bits .xor .u8 (xs.getD i 0) (ys.getD i 0) else 0 := by
  rw [List.getD_eq_getElem?_getD]; simp [mix, h]
theorem mix_zero (xs ys : List Int) : mix xs ys 0 = List.replicate xs.length 0 := by
  apply List.ext_getElem?
  intro i
  by_cases h : i < xs.length <;> simp [mix, h]
theorem mix_set (xs ys : List Int) (k : Nat) : (mix xs ys k).set k (bits .xor .u8 (xs.getD k 0) (ys.getD k 0)) = mix xs ys (k + 1) := by
  apply List.ext_getElem?
  intro i
  rw [List.getElem?_set]
  by_cases h : i < xs.length
  · by_cases e : k = i
    · subst e; simp [mix, h]
    · rw [if_neg e]; simp only [mix, List.getElem?_map, List.getElem?_range h, Option.map_some]
      congr 1
      by_cases hk : i < k
      · rw [if_pos hk, if_pos (by omega)]
      · rw [if_neg hk, if_neg (by omega)]
  · have h1 : (mix xs ys (k + 1))[i]? = none := List.getElem?_eq_none (by rw [mix_length]; omega)
    have h2 : (mix xs ys k)[i]? = none := List.getElem?_eq_none (by rw [mix_length]; omega)
    rw [h1, h2, mix_length]
    split
    · rw [if_neg (by omega)]
    · rfl

theorem xor_compl (a b c : BitVec 32) : ~~~a ^^^ ~~~b ^^^ ~~~c = ~~~(a ^^^ b ^^^ c) := by
  apply BitVec.eq_of_getLsbD_eq
  intro i hi
  simp only [BitVec.getLsbD_xor, BitVec.getLsbD_not]
  cases a.getLsbD i <;> cases b.getLsbD i <;> cases c.getLsbD i <;> simp [hi]

theorem linear (xs ys : List Int) (h : xs.length = ys.length) (hx : ∀ x ∈ xs, 0 ≤ x ∧ x ≤ 255) (hy : ∀ y ∈ ys, 0 ≤ y ∧ y ≤ 255) :
    more 0#32 xs ^^^ more 0#32 ys ^^^ more 0#32 (List.replicate xs.length 0) = more 0#32 (mix xs ys xs.length) := by
  unfold more
  rw [xor_compl]
  congr 1
  have gx : ∀ i, i < xs.length → 0 ≤ xs.getD i 0 ∧ xs.getD i 0 ≤ 255 := fun i hi => by
    rw [List.getD_eq_getElem?_getD, List.getElem?_eq_getElem hi]; exact hx _ (List.getElem_mem hi)
  have gy : ∀ i, i < xs.length → 0 ≤ ys.getD i 0 ∧ ys.getD i 0 ≤ 255 := fun i hi => by
    rw [List.getD_eq_getElem?_getD, List.getElem?_eq_getElem (h ▸ hi)]; exact hy _ (List.getElem_mem _)
  have h1 := run_xor xs ys (mix xs ys xs.length) (~~~0#32) (~~~0#32) h (mix_length _ _ _) fun i hi => by
    rw [mix_getD _ _ _ _ hi, if_pos hi]; exact (byte_xor _ _ (gx i hi) (gy i hi)).1
  rw [← h1]
  have h2 := run_xor (mix xs ys xs.length) (List.replicate xs.length 0) (mix xs ys xs.length) (~~~0#32 ^^^ ~~~0#32) (~~~0#32) (by simp [mix_length]) rfl fun i hi => by
    have : (List.replicate xs.length (0 : Int)).getD i 0 = 0 := by
      rw [List.getD_eq_getElem?_getD, List.getElem?_replicate]; split <;> rfl
    rw [this]; simp
  rw [← h2]
  rfl

end Go.Proofs.Ytpfmcobphaajlaa
