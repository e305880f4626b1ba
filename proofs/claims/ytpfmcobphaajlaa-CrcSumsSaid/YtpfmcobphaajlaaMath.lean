/-
  The plain law of the sum: registers as bit vectors of 32 bits; steps are linear and one-to-one; no program in sight.
-/
import Derived.Laws.BitsLemmas
namespace Go.Proofs.Ytpfmcobphaajlaa

/-- One step of a register, as the program's text reckons it on whole numbers. -/
def stepI (x : Int) : Int := bits .xor .u32 (x / 2) (bits .and .u32 3988292384 (-bits .and .u32 x 1 % 4294967296))
def stepsI : Nat → Int → Int
  | 0, x => x
  | n + 1, x => stepsI n (stepI x)
/-- One step of a register, as the document's answer reckons it. -/
def refStepI (x : Int) : Int := if bits .and .u32 x 1 = 1 then bits .xor .u32 (x / 2) 3988292384 else x / 2

/-- One step of a register. -/
def st (r : BitVec 32) : BitVec 32 := r >>> 1 ^^^ (if r.getLsbD 0 then 3988292384#32 else 0#32)
def sts : Nat → BitVec 32 → BitVec 32
  | 0, r => r
  | n + 1, r => sts n (st r)
/-- A register and a byte. -/
def upd (r : BitVec 32) (x : Int) : BitVec 32 := sts 8 (r ^^^ BitVec.ofInt 32 x)
/-- A register and bytes. -/
def run (r : BitVec 32) (xs : List Int) : BitVec 32 := xs.foldl upd r
/-- The sum of bytes behind others. -/
def more (s : BitVec 32) (xs : List Int) : BitVec 32 := ~~~(run (~~~s) xs)

theorem ofInt_toNat (r : BitVec 32) : BitVec.ofInt 32 (r.toNat : Int) = r := by
  rw [BitVec.ofInt_natCast]; simp

theorem and_one (r : BitVec 32) : r &&& 1#32 = if r.getLsbD 0 then 1#32 else 0#32 := by
  apply BitVec.eq_of_getLsbD_eq
  intro i hi
  rw [BitVec.getLsbD_and, BitVec.getLsbD_one]
  rcases Nat.eq_zero_or_pos i with rfl | hp
  · cases h : r.getLsbD 0 <;> simp
  · have : i ≠ 0 := by omega
    cases h : r.getLsbD 0 <;> simp [this]

theorem wrap_bv (v : BitVec 32) : IntKind.u32.wrap (v.toNat : Int) = (v.toNat : Int) := by
  rw [IntKind.wrap_u32]
  have := v.isLt
  omega
theorem bits_and_bv (a b : BitVec 32) : bits .and .u32 (a.toNat : Int) (b.toNat : Int) = ((a &&& b).toNat : Int) := by
  show IntKind.u32.wrap ((BitVec.ofInt 32 (a.toNat : Int) &&& BitVec.ofInt 32 (b.toNat : Int) : BitVec 32).toNat : Int) = _
  rw [ofInt_toNat, ofInt_toNat, wrap_bv]
theorem bits_xor_int (a : BitVec 32) (x : Int) : bits .xor .u32 (a.toNat : Int) x = ((a ^^^ BitVec.ofInt 32 x).toNat : Int) := by
  show IntKind.u32.wrap ((BitVec.ofInt 32 (a.toNat : Int) ^^^ BitVec.ofInt 32 x : BitVec 32).toNat : Int) = _
  rw [ofInt_toNat, wrap_bv]
theorem bits_xor_bv (a b : BitVec 32) : bits .xor .u32 (a.toNat : Int) (b.toNat : Int) = ((a ^^^ b).toNat : Int) := by
  rw [bits_xor_int, ofInt_toNat]
theorem half (r : BitVec 32) : (r.toNat : Int) / (2 : Int) = ((r >>> 1).toNat : Int) := by
  rw [BitVec.toNat_ushiftRight, Nat.shiftRight_eq_div_pow]; simp
theorem compl_bv (r : BitVec 32) : bits .xor .u32 4294967295 (r.toNat : Int) = ((~~~r).toNat : Int) := by
  have h : (4294967295 : Int) = ((BitVec.allOnes 32).toNat : Int) := by decide
  rw [h, bits_xor_bv, BitVec.allOnes_xor]

theorem stepI_bv (r : BitVec 32) : stepI (r.toNat : Int) = ((st r).toNat : Int) := by
  unfold stepI st
  have h1 : (1 : Int) = ((1#32).toNat : Int) := by decide
  have hp : (3988292384 : Int) = ((3988292384#32).toNat : Int) := by decide
  rw [half]
  conv => lhs; rw [h1, bits_and_bv, and_one]
  cases h : r.getLsbD 0
  · have e : -(((if false = true then 1#32 else 0#32) : BitVec 32).toNat : Int) % 4294967296 = ((0#32).toNat : Int) := by decide
    rw [e, hp, bits_and_bv, bits_xor_bv]; congr 1
  · have e : -(((if true = true then 1#32 else 0#32) : BitVec 32).toNat : Int) % 4294967296 = ((4294967295#32).toNat : Int) := by decide
    rw [e, hp, bits_and_bv, bits_xor_bv]; congr 1

theorem refStepI_bv (r : BitVec 32) : refStepI (r.toNat : Int) = ((st r).toNat : Int) := by
  unfold refStepI st
  have h1 : (1 : Int) = ((1#32).toNat : Int) := by decide
  have hp : (3988292384 : Int) = ((3988292384#32).toNat : Int) := by decide
  rw [half, h1, bits_and_bv, and_one]
  cases h : r.getLsbD 0
  · rw [if_neg (by decide)]; simp
  · rw [if_pos (by decide), hp, bits_xor_bv]; rfl

theorem stepsI_bv (n : Nat) : ∀ r : BitVec 32, stepsI n (r.toNat : Int) = ((sts n r).toNat : Int) := by
  induction n with
  | zero => intro r; rfl
  | succ n ih => intro r; show stepsI n (stepI _) = _; rw [stepI_bv, ih]; rfl
theorem stepsI_snoc (n : Nat) : ∀ x, stepsI (n + 1) x = stepI (stepsI n x) := by
  induction n with
  | zero => intro x; rfl
  | succ n ih => intro x; show stepsI (n + 1) (stepI x) = stepI (stepsI n (stepI x)); rw [ih]
theorem sts_snoc (n : Nat) : ∀ x, sts (n + 1) x = st (sts n x) := by
  induction n with
  | zero => intro x; rfl
  | succ n ih => intro x; show sts (n + 1) (st x) = st (sts n (st x)); rw [ih]
theorem sts_add (m n : Nat) (x : BitVec 32) : sts (m + n) x = sts n (sts m x) := by
  induction n with
  | zero => rfl
  | succ n ih => rw [← Nat.add_assoc, sts_snoc, sts_snoc, ih]

/-! Linear. -/
theorem st_xor (a b : BitVec 32) : st (a ^^^ b) = st a ^^^ st b := by
  unfold st
  rw [BitVec.getLsbD_xor, BitVec.ushiftRight_xor_distrib]
  cases a.getLsbD 0 <;> cases b.getLsbD 0 <;> simp <;> (apply BitVec.eq_of_getLsbD_eq; intro i hi; simp [BitVec.getLsbD_xor]) <;>
    (try (cases (a >>> 1).getLsbD i <;> cases (b >>> 1).getLsbD i <;> cases (3988292384#32).getLsbD i <;> rfl)) <;>
    (try (cases a.getLsbD (1 + i) <;> cases b.getLsbD (1 + i) <;> cases (3988292384#32).getLsbD i <;> simp))
theorem st_zero : st 0#32 = 0#32 := by decide
theorem sts_zero (n : Nat) : sts n 0#32 = 0#32 := by
  induction n with
  | zero => rfl
  | succ n ih => show sts n (st 0#32) = _; rw [st_zero, ih]
theorem sts_xor (n : Nat) : ∀ a b : BitVec 32, sts n (a ^^^ b) = sts n a ^^^ sts n b := by
  induction n with
  | zero => intro a b; rfl
  | succ n ih => intro a b; show sts n (st _) = _; rw [st_xor, ih]; rfl

/-! One-to-one. -/
theorem st_ne (a : BitVec 32) (h : a ≠ 0#32) : st a ≠ 0#32 := by
  intro e
  apply h
  unfold st at e
  cases hb : a.getLsbD 0
  · rw [hb] at e
    simp at e
    apply BitVec.eq_of_getLsbD_eq
    intro i hi
    rcases i with _ | i
    · simpa using hb
    · have := congrArg (fun v => BitVec.getLsbD v i) e
      simp [BitVec.getLsbD_ushiftRight] at this
      rw [Nat.add_comm] at this
      simpa using this
  · rw [hb] at e
    have := congrArg (fun v => BitVec.getLsbD v 31) e
    simp at this
theorem sts_ne (n : Nat) : ∀ a : BitVec 32, a ≠ 0#32 → sts n a ≠ 0#32 := by
  induction n with
  | zero => intro a h; exact h
  | succ n ih => intro a h; exact ih _ (st_ne a h)

end Go.Proofs.Ytpfmcobphaajlaa
