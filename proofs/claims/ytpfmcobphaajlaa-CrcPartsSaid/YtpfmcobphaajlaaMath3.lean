/-
  The plain law of joining: a register on by powers of two, by matrices of bits.
-/
import Derived.Test.YtpfmcobphaajlaaMath2
namespace Go.Proofs.Ytpfmcobphaajlaa

/-- What a matrix makes of the first n bits of a register. -/
def mul (M : Nat → BitVec 32) (r : BitVec 32) : Nat → BitVec 32
  | 0 => 0#32
  | n + 1 => if r.getLsbD n then mul M r n ^^^ M n else mul M r n
/-- The matrix of n steps. -/
def mat (n : Nat) (i : Nat) : BitVec 32 := sts n (1#32 <<< i)

theorem mul_mat (n : Nat) (r : BitVec 32) : ∀ k, mul (mat n) r k = sts n (wd (fun i => r.getLsbD i) k)
  | 0 => by rw [mul, wd, sts_zero]
  | k + 1 => by
    rw [mul, wd, mul_mat n r k, sts_xor]
    by_cases h : r.getLsbD k = true
    · rw [if_pos h, h]; rfl
    · rw [if_neg h]
      rw [Bool.not_eq_true] at h
      rw [h]
      simp [b1, sts_zero]
theorem mul_mat_all (n : Nat) (r : BitVec 32) : mul (mat n) r 32 = sts n r := by rw [mul_mat, wd_self]
theorem mat_twice (n i : Nat) : mul (mat n) (mat n i) 32 = mat (2 * n) i := by
  rw [mul_mat_all]; unfold mat; rw [← sts_add]; congr 1; omega

/-- Joined: the first sum gone over as many bytes as the second text has, with the second sum. -/
theorem run_zeros (n : Nat) : ∀ r : BitVec 32, run r (List.replicate n 0) = sts (8 * n) r := by
  induction n with
  | zero => intro r; rfl
  | succ n ih =>
    intro r
    show run (upd r 0) (List.replicate n 0) = _
    rw [ih, show 8 * (n + 1) = 8 + 8 * n by omega, sts_add]
    unfold upd
    simp
theorem join_law (xs ys : List Int) : more 0#32 (xs ++ ys) = sts (8 * ys.length) (more 0#32 xs) ^^^ more 0#32 ys := by
  unfold more
  have h0 : run (~~~0#32) (xs ++ ys) = run (run (~~~0#32) xs) ys := List.foldl_append ..
  rw [h0]
  generalize run (~~~0#32) xs = r
  have h1 := run_xor ys (List.replicate ys.length 0) ys (~~~0#32) (r ^^^ ~~~0#32) (by simp) rfl fun i hi => by
    have : (List.replicate ys.length (0 : Int)).getD i 0 = 0 := by
      rw [List.getD_eq_getElem?_getD, List.getElem?_replicate]; split <;> rfl
    rw [this]; simp
  have e1 : ~~~0#32 ^^^ (r ^^^ ~~~0#32) = r := by
    apply BitVec.eq_of_getLsbD_eq
    intro i hi
    simp only [BitVec.getLsbD_xor, BitVec.getLsbD_not]
    cases r.getLsbD i <;> simp [hi]
  have e2 : r ^^^ ~~~0#32 = ~~~r := by
    apply BitVec.eq_of_getLsbD_eq
    intro i hi
    simp only [BitVec.getLsbD_xor, BitVec.getLsbD_not]
    cases r.getLsbD i <;> simp [hi]
  rw [e1, run_zeros, e2] at h1
  rw [h1]
  apply BitVec.eq_of_getLsbD_eq
  intro i hi
  simp only [BitVec.getLsbD_xor, BitVec.getLsbD_not]
  cases (run (~~~0#32) ys).getLsbD i <;> cases (sts (8 * ys.length) (~~~r)).getLsbD i <;> simp [hi]
theorem more_append (xs ys : List Int) : more (more 0#32 xs) ys = more 0#32 (xs ++ ys) := by
  unfold more
  rw [BitVec.not_not]
  show _ = ~~~((xs ++ ys).foldl upd _)
  rw [List.foldl_append]
  rfl

end Go.Proofs.Ytpfmcobphaajlaa
