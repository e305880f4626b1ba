/-
  The plain law of the sum, bit by bit: what a text with its own sum behind it has; that a burst of up to 32 bits is seen.
-/
import Derived.Test.YtpfmcobphaajlaaMath
namespace Go.Proofs.Ytpfmcobphaajlaa

def b1 (b : Bool) : BitVec 32 := if b then 1#32 else 0#32
/-- A register and n bits, one by one. -/
def brun (r : BitVec 32) (f : Nat → Bool) : Nat → BitVec 32
  | 0 => r
  | n + 1 => st (brun r f n ^^^ b1 (f n))
/-- The first n bits as a word. -/
def wd (f : Nat → Bool) : Nat → BitVec 32
  | 0 => 0#32
  | n + 1 => wd f n ^^^ (b1 (f n) <<< n)

theorem sts_one : ∀ n : Fin 33, n.val < 32 → sts n.val (1#32 <<< n.val) = 1#32 := by decide +kernel
theorem sts_bit (n : Nat) (h : n < 32) (b : Bool) : sts n (b1 b <<< n) = b1 b := by
  cases b
  · simp [b1, sts_zero]
  · exact sts_one ⟨n, by omega⟩ h
theorem brun_wd (r : BitVec 32) (f : Nat → Bool) : ∀ n, n ≤ 32 → brun r f n = sts n (r ^^^ wd f n)
  | 0, _ => by simp [brun, wd, sts]
  | n + 1, h => by
    rw [brun, brun_wd r f n (by omega), sts_snoc, wd]
    congr 1
    rw [← BitVec.xor_assoc, sts_xor n (r ^^^ wd f n), sts_bit n (by omega)]
theorem brun_add (r : BitVec 32) (f : Nat → Bool) (m : Nat) : ∀ n, brun r f (m + n) = brun (brun r f m) (fun i => f (m + i)) n
  | 0 => rfl
  | n + 1 => by show st (brun r f (m + n) ^^^ b1 (f (m + n))) = _; rw [brun_add r f m n]; rfl
theorem brun_congr (r : BitVec 32) (f g : Nat → Bool) : ∀ n, (∀ i, i < n → f i = g i) → brun r f n = brun r g n
  | 0, _ => rfl
  | n + 1, h => by rw [brun, brun, brun_congr r f g n (fun i hi => h i (by omega)), h n (by omega)]
theorem brun_false (r : BitVec 32) (f : Nat → Bool) : ∀ n, (∀ i, i < n → f i = false) → brun r f n = sts n r
  | 0, _ => rfl
  | n + 1, h => by rw [brun, brun_false r f n (fun i hi => h i (by omega)), h n (by omega), sts_snoc]; simp [b1]
theorem b1_xor (a b : Bool) : b1 (a ^^ b) = b1 a ^^^ b1 b := by cases a <;> cases b <;> decide
theorem brun_xor (r s : BitVec 32) (f g : Nat → Bool) : ∀ n, brun (r ^^^ s) (fun i => f i ^^ g i) n = brun r f n ^^^ brun s g n
  | 0 => rfl
  | n + 1 => by
    rw [brun, brun, brun, brun_xor r s f g n, b1_xor, ← st_xor]
    congr 1
    simp only [BitVec.xor_assoc]
    congr 1
    simp only [← BitVec.xor_assoc]
    rw [BitVec.xor_comm (brun s g n)]

/-- Bit j of a text of bytes. -/
def bitOf (xs : List Int) (j : Nat) : Bool := (xs.getD (j / 8) 0).toNat.testBit (j % 8)
theorem byte_wd : ∀ a : Fin 256, wd (fun j => a.val.testBit j) 8 = BitVec.ofNat 32 a.val := by decide +kernel
theorem upd_brun (r : BitVec 32) (x : Int) (h : 0 ≤ x ∧ x ≤ 255) : upd r x = brun r (fun j => x.toNat.testBit j) 8 := by
  rw [brun_wd _ _ _ (by decide)]
  unfold upd
  congr 2
  have := byte_wd ⟨x.toNat, by omega⟩
  simp only at this
  rw [this]
  obtain ⟨a, rfl⟩ := Int.eq_ofNat_of_zero_le h.1
  rw [BitVec.ofInt_natCast]; rfl
theorem run_brun : ∀ (xs : List Int) (r : BitVec 32), (∀ x ∈ xs, 0 ≤ x ∧ x ≤ 255) → run r xs = brun r (bitOf xs) (8 * xs.length)
  | [], r, _ => rfl
  | x :: xs, r, h => by
    show run (upd r x) xs = _
    rw [upd_brun r x (h x (by simp)), run_brun xs _ (fun y hy => h y (by simp [hy])), List.length_cons, show 8 * (xs.length + 1) = 8 + 8 * xs.length by omega, brun_add]
    have h1 : brun r (fun j => x.toNat.testBit j) 8 = brun r (bitOf (x :: xs)) 8 := brun_congr _ _ _ _ fun i hi => by
      unfold bitOf; rw [show i / 8 = 0 by omega, show i % 8 = i by omega]; rfl
    rw [h1]
    exact brun_congr _ _ _ _ fun i hi => by
      unfold bitOf; rw [show (8 + i) / 8 = i / 8 + 1 by omega, show (8 + i) % 8 = i % 8 by omega]; rfl

/-- A word of 32 bits is its bits. -/
theorem wd_getLsbD (f : Nat → Bool) : ∀ n, n ≤ 32 → ∀ i, (wd f n).getLsbD i = (decide (i < n) && f i)
  | 0, _, i => by simp [wd]
  | n + 1, h, i => by
    rw [wd, BitVec.getLsbD_xor, wd_getLsbD f n (by omega), BitVec.getLsbD_shiftLeft]
    rcases Nat.lt_trichotomy i n with hi | rfl | hi
    · have h1 : i < n + 1 := by omega
      simp [hi, h1]
    · cases hf : f i <;> simp [b1]
      omega
    · have h1 : ¬ i < n := by omega
      have h2 : ¬ i < n + 1 := by omega
      have h3 : i - n ≠ 0 := by omega
      cases hf : f n <;> simp [b1, h1, h2]
      omega
theorem wd_self (v : BitVec 32) : wd (fun i => v.getLsbD i) 32 = v := by
  apply BitVec.eq_of_getLsbD_eq
  intro i hi
  rw [wd_getLsbD _ _ (by decide)]
  simp [hi]

/-- A burst of up to 32 bits, anywhere, is seen. -/
theorem burst_seen (xs ys : List Int) (hx : ∀ x ∈ xs, 0 ≤ x ∧ x ≤ 255) (hy : ∀ x ∈ ys, 0 ≤ x ∧ x ≤ 255) (hl : ys.length = xs.length) (at' : Nat) (hat : at' + 32 ≤ 8 * xs.length) (burst : BitVec 32) (hb : burst ≠ 0#32)
    (h : ∀ j, j < 8 * xs.length → bitOf ys j = (bitOf xs j ^^ (decide (at' ≤ j ∧ j < at' + 32) && burst.getLsbD (j - at')))) :
    more 0#32 ys ≠ more 0#32 xs := by
  intro e
  unfold more at e
  have e' : run (~~~0#32) ys = run (~~~0#32) xs := by
    have := congrArg (fun v => ~~~v) e
    simpa using this
  rw [run_brun ys _ hy, run_brun xs _ hx, hl] at e'
  have hz := brun_xor (~~~0#32) (~~~0#32) (bitOf ys) (bitOf xs) (8 * xs.length)
  rw [e', BitVec.xor_self, BitVec.xor_self] at hz
  have hz' : brun 0#32 (fun j => decide (at' ≤ j ∧ j < at' + 32) && burst.getLsbD (j - at')) (8 * xs.length) = 0#32 := by
    refine Eq.trans (brun_congr _ _ _ _ fun j hj => ?_) hz
    rw [h j hj]; cases bitOf xs j <;> simp
  rw [show 8 * xs.length = at' + (32 + (8 * xs.length - at' - 32)) by omega, brun_add, brun_false 0#32 _ at' (fun i hi => by simp; omega), sts_zero, brun_add] at hz'
  rw [brun_false _ _ (8 * xs.length - at' - 32) (fun i hi => by simp)] at hz'
  rw [brun_congr 0#32 _ (fun i => burst.getLsbD i) 32 (fun i hi => by
    have h1 : at' ≤ at' + i ∧ at' + i < at' + 32 := by omega
    simp [h1, show at' + i - at' = i by omega]), brun_wd _ _ _ (by decide), wd_self, BitVec.zero_xor] at hz'
  exact sts_ne _ _ (sts_ne _ _ hb) hz'

/-- Byte k of a sum, the lowest first. -/
def sb (s : BitVec 32) (k : Nat) : Int := ((s.toNat / 2 ^ (8 * k) % 256 : Nat) : Int)
theorem sb_bd (s : BitVec 32) (k : Nat) : 0 ≤ sb s k ∧ sb s k ≤ 255 := by unfold sb; omega
theorem sb_bits (s : BitVec 32) (i : Nat) (h : i < 32) : bitOf [sb s 0, sb s 1, sb s 2, sb s 3] i = s.getLsbD i := by
  have key : ∀ k, (sb s k).toNat.testBit (i % 8) = s.getLsbD (8 * k + i % 8) := fun k => by
    unfold sb
    rw [Int.toNat_natCast, show (256 : Nat) = 2 ^ 8 by rfl, Nat.testBit_mod_two_pow, ← Nat.shiftRight_eq_div_pow, Nat.testBit_shiftRight]
    rw [show decide (i % 8 < 8) = true by simp; omega, Bool.true_and]
    rfl
  unfold bitOf
  have h4 : i / 8 = 0 ∨ i / 8 = 1 ∨ i / 8 = 2 ∨ i / 8 = 3 := by omega
  rcases h4 with e | e | e | e <;> rw [e]
  · show (sb s 0).toNat.testBit (i % 8) = _; rw [key]; congr 1; omega
  · show (sb s 1).toNat.testBit (i % 8) = _; rw [key]; congr 1; omega
  · show (sb s 2).toNat.testBit (i % 8) = _; rw [key]; congr 1; omega
  · show (sb s 3).toNat.testBit (i % 8) = _; rw [key]; congr 1; omega
theorem rest_const : ~~~(sts 32 (BitVec.allOnes 32)) = 558161692#32 := by decide +kernel
theorem rest_law (xs : List Int) : more 0#32 (xs ++ [sb (more 0#32 xs) 0, sb (more 0#32 xs) 1, sb (more 0#32 xs) 2, sb (more 0#32 xs) 3]) = 558161692#32 := by
  generalize hs : more 0#32 xs = s
  unfold more
  unfold more at hs
  rw [← rest_const]
  congr 1
  show (xs ++ _).foldl upd _ = _
  rw [List.foldl_append]
  show run (run _ xs) _ = _
  rw [run_brun _ _ (by
    intro x hx
    simp only [List.mem_cons, List.not_mem_nil, or_false] at hx
    rcases hx with rfl | rfl | rfl | rfl <;> exact sb_bd _ _)]
  show brun _ _ 32 = _
  rw [brun_congr _ _ (fun i => s.getLsbD i) 32 (fun i hi => sb_bits s i hi), brun_wd _ _ _ (by decide), wd_self]
  congr 1
  rw [← hs]
  apply BitVec.eq_of_getLsbD_eq
  intro i hi
  rw [BitVec.getLsbD_xor, BitVec.getLsbD_not, BitVec.getLsbD_allOnes]
  cases (run (~~~0#32) xs).getLsbD i <;> simp [hi]

/-- One bit of a text, turned. -/
def flip (l : List Int) (p : Nat) : List Int := l.set (p / 8) (bits .xor .u8 (l.getD (p / 8) 0) ((2 ^ (p % 8) : Nat) : Int))
/-- The first k bits of a burst, turned. -/
def flips (xs : List Int) (p : Nat) (bu : BitVec 32) : Nat → List Int
  | 0 => xs
  | k + 1 => if bu.getLsbD k then flip (flips xs p bu k) (p + k) else flips xs p bu k
theorem flip_length (l : List Int) (p : Nat) : (flip l p).length = l.length := by simp [flip]
theorem flips_length (xs : List Int) (p : Nat) (bu : BitVec 32) : ∀ k, (flips xs p bu k).length = xs.length
  | 0 => rfl
  | k + 1 => by unfold flips; split <;> simp [flip_length, flips_length xs p bu k]
theorem getD_byte (l : List Int) (h : ∀ x ∈ l, 0 ≤ x ∧ x ≤ 255) (i : Nat) : 0 ≤ l.getD i 0 ∧ l.getD i 0 ≤ 255 := by
  rw [List.getD_eq_getElem?_getD]
  by_cases hi : i < l.length
  · rw [List.getElem?_eq_getElem hi]; exact h _ (List.getElem_mem hi)
  · rw [List.getElem?_eq_none (by omega)]; decide
theorem pow_byte (p : Nat) : (0 : Int) ≤ ((2 ^ (p % 8) : Nat) : Int) ∧ ((2 ^ (p % 8) : Nat) : Int) ≤ 255 := by
  have h : 2 ^ (p % 8) ≤ 2 ^ 7 := Nat.pow_le_pow_right (by decide) (by omega)
  generalize 2 ^ (p % 8) = q at h
  omega
theorem byte_xor_nat (x y : Int) (hx : 0 ≤ x ∧ x ≤ 255) (hy : 0 ≤ y ∧ y ≤ 255) : (bits .xor .u8 x y).toNat = x.toNat ^^^ y.toNat := by
  obtain ⟨a, rfl⟩ := Int.eq_ofNat_of_zero_le hx.1
  obtain ⟨b, rfl⟩ := Int.eq_ofNat_of_zero_le hy.1
  have ha : a < 2 ^ 8 := by omega
  have hb : b < 2 ^ 8 := by omega
  have hlt : a ^^^ b < 2 ^ 8 := Nat.xor_lt_two_pow ha hb
  have e : bits .xor .u8 (a : Int) (b : Int) = ((a ^^^ b : Nat) : Int) := by
    show IntKind.u8.wrap ((BitVec.ofInt 8 (a : Int) ^^^ BitVec.ofInt 8 (b : Int) : BitVec 8).toNat : Int) = _
    rw [BitVec.ofInt_natCast, BitVec.ofInt_natCast, IntKind.wrap_u8, BitVec.toNat_xor, BitVec.toNat_ofNat, BitVec.toNat_ofNat, Nat.mod_eq_of_lt ha, Nat.mod_eq_of_lt hb]
    omega
  rw [e]; rfl
theorem flip_byte (l : List Int) (p : Nat) (h : ∀ x ∈ l, 0 ≤ x ∧ x ≤ 255) : ∀ x ∈ flip l p, 0 ≤ x ∧ x ≤ 255 := by
  intro x hx
  rcases List.mem_or_eq_of_mem_set hx with hx | rfl
  · exact h x hx
  · exact (byte_xor _ _ (getD_byte l h _) (pow_byte p)).2
theorem flips_byte (xs : List Int) (p : Nat) (bu : BitVec 32) (h : ∀ x ∈ xs, 0 ≤ x ∧ x ≤ 255) : ∀ k, ∀ x ∈ flips xs p bu k, 0 ≤ x ∧ x ≤ 255
  | 0 => h
  | k + 1 => by
    unfold flips
    split
    · exact flip_byte _ _ (flips_byte xs p bu h k)
    · exact flips_byte xs p bu h k
theorem bitOf_flip (l : List Int) (p j : Nat) (h : ∀ x ∈ l, 0 ≤ x ∧ x ≤ 255) (hp : p < 8 * l.length) : bitOf (flip l p) j = (bitOf l j ^^ decide (j = p)) := by
  unfold bitOf flip
  rw [List.getD_eq_getElem?_getD, List.getElem?_set]
  by_cases e : p / 8 = j / 8
  · rw [if_pos e, if_pos (by omega), Option.getD_some, byte_xor_nat _ _ (getD_byte l h _) (pow_byte p), Nat.testBit_xor, e, Int.toNat_natCast, Nat.testBit_two_pow]
    congr 1
    by_cases q : p % 8 = j % 8
    · simp [q]; omega
    · simp [q]; omega
  · rw [if_neg e, ← List.getD_eq_getElem?_getD]
    have : ¬ j = p := by omega
    simp [this]
theorem bitOf_flips (xs : List Int) (p : Nat) (bu : BitVec 32) (h : ∀ x ∈ xs, 0 ≤ x ∧ x ≤ 255) (hp : p + 32 ≤ 8 * xs.length) (j : Nat) :
    ∀ k, k ≤ 32 → bitOf (flips xs p bu k) j = (bitOf xs j ^^ (decide (p ≤ j ∧ j < p + k) && bu.getLsbD (j - p)))
  | 0, _ => by
    have : ¬ (p ≤ j ∧ j < p + 0) := by omega
    rw [decide_eq_false this, flips]; simp
  | k + 1, hk => by
    have ih := bitOf_flips xs p bu h hp j k (by omega)
    unfold flips
    by_cases hb : bu.getLsbD k = true
    · rw [if_pos hb, bitOf_flip _ _ _ (flips_byte xs p bu h k) (by rw [flips_length]; omega), ih]
      by_cases e : j = p + k
      · subst e
        have h1 : ¬ (p ≤ p + k ∧ p + k < p + k) := by omega
        have h2 : p ≤ p + k ∧ p + k < p + (k + 1) := by omega
        rw [show p + k - p = k by omega, hb]
        simp [h2]
      · have h1 : (p ≤ j ∧ j < p + (k + 1)) ↔ (p ≤ j ∧ j < p + k) := by omega
        simp [e, h1]
    · rw [if_neg hb, ih]
      by_cases e : j = p + k
      · subst e
        rw [show p + k - p = k by omega]
        simp [hb]
      · have h1 : (p ≤ j ∧ j < p + (k + 1)) ↔ (p ≤ j ∧ j < p + k) := by omega
        simp [h1]
theorem flips_seen (xs : List Int) (p : Nat) (bu : BitVec 32) (h : ∀ x ∈ xs, 0 ≤ x ∧ x ≤ 255) (hp : p + 32 ≤ 8 * xs.length) (hb : bu ≠ 0#32) : more 0#32 (flips xs p bu 32) ≠ more 0#32 xs :=
  burst_seen xs _ h (flips_byte xs p bu h 32) (flips_length xs p bu 32) p hp bu hb fun j _ => bitOf_flips xs p bu h hp j 32 (Nat.le_refl _)

theorem bit_test (bu : BitVec 32) (k : Nat) : (bits .and .u32 ((bu.toNat : Int) / 2 ^ k) 1 == 1) = bu.getLsbD k := by
  have e : (bu.toNat : Int) / 2 ^ k = ((bu >>> k).toNat : Int) := by
    rw [BitVec.toNat_ushiftRight, Nat.shiftRight_eq_div_pow]; simp
  have h1 : (1 : Int) = ((1#32).toNat : Int) := by decide
  rw [e]
  conv => lhs; lhs; rw [h1, bits_and_bv, and_one]
  rw [BitVec.getLsbD_ushiftRight, Nat.add_zero]
  cases bu.getLsbD k <;> decide

end Go.Proofs.Ytpfmcobphaajlaa
