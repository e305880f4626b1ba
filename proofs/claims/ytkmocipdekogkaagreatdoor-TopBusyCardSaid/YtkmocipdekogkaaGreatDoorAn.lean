/-
  Texts that are names: runes as the document takes them are the model's own.
  The walks of names: strings.HasPrefix, span.Name.
  The walks of names: span.Name.
  The walk of span.Right, for a span that is right.
  The walks of a span's reader: numbers, small ones, texts.
  The walk of span.Cut, of a span's bytes.
  The walk of span.Cut, of a span's bytes: the whole.
-/
import Derived.Test.YtkmocipdekogkaaGreatDoorAb
import Derived.Test.YtkmocipdekogkaaGreatDoorAl
import Derived.Laws.RangeAny
import Derived.Laws.RangeString
import Derived.Laws.BitsLemmas
import Derived.Laws.BytesString
import Derived.Laws.OwnMore
import Derived.Laws.AppendOwnNone
set_option linter.all false
section
namespace Go.Proofs.YtkmocipdekogkaaGreatDoor
set_option linter.unusedVariables false
set_option linter.unusedSimpArgs false

/-- A byte of a text, as a number. -/
def bt (u : ByteArray) (i : Nat) : Nat := (u.get! i).toNat
theorem bt_lt (u : ByteArray) (i : Nat) : bt u i < 256 := (u.get! i).toNat_lt
def contB (u : ByteArray) (i : Nat) : Bool := !(decide (bt u i < 128) || decide (bt u i > 191))
/-- A rune and how many bytes it has, as the document has it. -/
def runeR (u : ByteArray) : Nat × Nat :=
  if u.size = 0 then (0, 0) else
  if bt u 0 < 128 then (bt u 0, 1) else
  if 194 ≤ bt u 0 ∧ bt u 0 ≤ 223 then
    (if u.size < 2 then (0, 0) else if contB u 1 then (((bt u 0 - 192) * 64 + bt u 1 - 128), 2) else (0, 0))
  else if 224 ≤ bt u 0 ∧ bt u 0 ≤ 239 then
    (if u.size < 3 then (0, 0) else if contB u 1 && contB u 2 then
      (let r := ((bt u 0 - 224) * 64 + bt u 1 - 128) * 64 + bt u 2 - 128
       if r < 2048 ∨ (55296 ≤ r ∧ r ≤ 57343) then (0, 0) else (r, 3)) else (0, 0))
  else if 240 ≤ bt u 0 ∧ bt u 0 ≤ 244 then
    (if u.size < 4 then (0, 0) else if contB u 1 && contB u 2 && contB u 3 then
      (let r := (((bt u 0 - 240) * 64 + bt u 1 - 128) * 64 + bt u 2 - 128) * 64 + bt u 3 - 128
       if r < 65536 ∨ 1114111 < r then (0, 0) else (r, 4)) else (0, 0))
  else (0, 0)
theorem contB_iff (u : ByteArray) (i : Nat) : contB u i = true ↔ 128 ≤ bt u i ∧ bt u i ≤ 191 := by
  unfold contB; simp
set_option maxRecDepth 100000 in
theorem rune_decode {u : ByteArray} {r n : Nat} (h : runeR u = (r, n)) (hn : n ≠ 0) : Utf8.decode u 0 = (r, n) ∧ (r = 65533 → n = 3) ∧ 1 ≤ n ∧ n ≤ u.size := by
  have c0 := bt_lt u 0
  have c1 := bt_lt u 1
  have c2 := bt_lt u 2
  have c3 := bt_lt u 3
  have hd : Utf8.decode u 0 = (
      if bt u 0 < 0x80 then (bt u 0, 1)
      else if (bt u 0 / 32 == 6 && (0 + 1 < u.size && bt u 1 / 64 == 2)) = true then
        (if bt u 0 % 32 * 64 + bt u 1 % 64 ≥ 0x80 then (bt u 0 % 32 * 64 + bt u 1 % 64, 2) else (Utf8.runeError, 1))
      else if (bt u 0 / 16 == 14 && (0 + 1 < u.size && bt u 1 / 64 == 2) && (0 + 2 < u.size && bt u 2 / 64 == 2)) = true then
        (if (decide (bt u 0 % 16 * 4096 + bt u 1 % 64 * 64 + bt u 2 % 64 ≥ 0x800) && Utf8.valid ((bt u 0 % 16 * 4096 + bt u 1 % 64 * 64 + bt u 2 % 64 : Nat) : Int)) = true then (bt u 0 % 16 * 4096 + bt u 1 % 64 * 64 + bt u 2 % 64, 3) else (Utf8.runeError, 1))
      else if (bt u 0 / 8 == 30 && (0 + 1 < u.size && bt u 1 / 64 == 2) && (0 + 2 < u.size && bt u 2 / 64 == 2) && (0 + 3 < u.size && bt u 3 / 64 == 2)) = true then
        (if (decide (bt u 0 % 8 * 262144 + bt u 1 % 64 * 4096 + bt u 2 % 64 * 64 + bt u 3 % 64 ≥ 0x10000) && Utf8.valid ((bt u 0 % 8 * 262144 + bt u 1 % 64 * 4096 + bt u 2 % 64 * 64 + bt u 3 % 64 : Nat) : Int)) = true then (bt u 0 % 8 * 262144 + bt u 1 % 64 * 4096 + bt u 2 % 64 * 64 + bt u 3 % 64, 4) else (Utf8.runeError, 1))
      else (Utf8.runeError, 1)) := by
    rfl
  rw [hd]
  clear hd
  unfold runeR at h
  generalize bt u 0 = a at *
  have k1 := contB_iff u 1
  have k2 := contB_iff u 2
  have k3 := contB_iff u 3
  generalize contB u 1 = q1 at *
  generalize contB u 2 = q2 at *
  generalize contB u 3 = q3 at *
  generalize bt u 1 = b at *
  generalize bt u 2 = c at *
  generalize bt u 3 = d at *
  split at h
  · cases h; exact absurd rfl hn
  rename_i hz
  split at h
  · rename_i h1
    cases h
    rw [if_pos h1]
    exact ⟨rfl, by omega, by omega, by omega⟩
  rename_i h1
  rw [if_neg (by omega)]
  split at h
  · rename_i h2
    split at h
    · cases h; exact absurd rfl hn
    split at h
    · rename_i h3 h4
      cases h
      have := k1.1 h4
      have e1 : (a / 32 == 6 && (decide (0 + 1 < u.size) && b / 64 == 2)) = true := by simp; omega
      rw [if_pos e1, if_pos (by omega)]
      refine ⟨?_, by omega, by omega, by omega⟩
      congr 1; omega
    · cases h; exact absurd rfl hn
  rename_i h2
  split at h
  · rename_i h3
    split at h
    · cases h; exact absurd rfl hn
    split at h
    · rename_i h4 h5
      simp only [Bool.and_eq_true] at h5
      have p1 := k1.1 h5.1
      have p2 := k2.1 h5.2
      have e0 : ¬ (a / 32 == 6 && (decide (0 + 1 < u.size) && b / 64 == 2)) = true := by simp; omega
      have e1 : (a / 16 == 14 && (decide (0 + 1 < u.size) && b / 64 == 2) && (decide (0 + 2 < u.size) && c / 64 == 2)) = true := by simp; omega
      rw [if_neg e0, if_pos e1]
      have er : ((a - 224) * 64 + b - 128) * 64 + c - 128 = a % 16 * 4096 + b % 64 * 64 + c % 64 := by omega
      simp only [er] at h
      split at h
      · cases h; exact absurd rfl hn
      · rename_i h6
        cases h
        have hv : Utf8.valid ((a % 16 * 4096 + b % 64 * 64 + c % 64 : Nat) : Int) = true := by
          unfold Utf8.valid; simp; omega
        rw [if_pos (by rw [hv, Bool.and_true]; exact decide_eq_true (by omega))]
        exact ⟨rfl, fun _ => rfl, by omega, by omega⟩
    · cases h; exact absurd rfl hn
  rename_i h3
  split at h
  · rename_i h4
    split at h
    · cases h; exact absurd rfl hn
    split at h
    · rename_i h5 h6
      simp only [Bool.and_eq_true] at h6
      have p1 := k1.1 h6.1.1
      have p2 := k2.1 h6.1.2
      have p3 := k3.1 h6.2
      have e0 : ¬ (a / 32 == 6 && (decide (0 + 1 < u.size) && b / 64 == 2)) = true := by simp; omega
      have e00 : ¬ (a / 16 == 14 && (decide (0 + 1 < u.size) && b / 64 == 2) && (decide (0 + 2 < u.size) && c / 64 == 2)) = true := by simp; omega
      have e1 : (a / 8 == 30 && (decide (0 + 1 < u.size) && b / 64 == 2) && (decide (0 + 2 < u.size) && c / 64 == 2) && (decide (0 + 3 < u.size) && d / 64 == 2)) = true := by simp; omega
      rw [if_neg e0, if_neg e00, if_pos e1]
      have er : (((a - 240) * 64 + b - 128) * 64 + c - 128) * 64 + d - 128 = a % 8 * 262144 + b % 64 * 4096 + c % 64 * 64 + d % 64 := by omega
      simp only [er] at h
      split at h
      · cases h; exact absurd rfl hn
      · rename_i h7
        cases h
        have hv : Utf8.valid ((a % 8 * 262144 + b % 64 * 4096 + c % 64 * 64 + d % 64 : Nat) : Int) = true := by
          unfold Utf8.valid; simp; omega
        rw [if_pos (by rw [hv, Bool.and_true]; exact decide_eq_true (by omega))]
        exact ⟨rfl, by omega, by omega, by omega⟩
    · cases h; exact absurd rfl hn
  · cases h; exact absurd rfl hn
theorem bt_data (u : ByteArray) (i : Nat) : bt u i = (u.data.toList.getD i 0).toNat := by
  unfold bt ByteArray.get!
  simp [List.getD_eq_getElem?_getD, Array.getElem!_eq_getD]
  rfl
theorem bt_extract (u : ByteArray) (p i : Nat) (hp : p ≤ u.size) : bt (u.extract p u.size) i = bt u (p + i) := by
  rw [bt_data, bt_data]
  congr 1
  have hs : u.data.toList.length = u.size := by simp
  simp only [ByteArray.data_extract, Array.toList_extract, List.getD_eq_getElem?_getD, List.extract_eq_take_drop]
  rw [List.getElem?_take]
  split
  · rw [List.getElem?_drop]
  · rw [List.getElem?_eq_none (by rw [hs]; omega)]
theorem size_extract (u : ByteArray) (p : Nat) (hp : p ≤ u.size) : (u.extract p u.size).size = u.size - p := by
  rw [ByteArray.size_extract]; omega
set_option maxRecDepth 100000 in
theorem decode_extract (u : ByteArray) (p : Nat) (hp : p ≤ u.size) : Utf8.decode (u.extract p u.size) 0 = Utf8.decode u p := by
  have hb : ∀ k, ((u.extract p u.size).get! (0 + k)).toNat = (u.get! (p + k)).toNat := fun k => by
    have := bt_extract u p k hp
    rw [Nat.zero_add]; exact this
  have hs : ∀ k, (decide (0 + k < (u.extract p u.size).size)) = decide (p + k < u.size) := fun k => by
    rw [size_extract u p hp]
    congr 1
    apply propext
    omega
  unfold Utf8.decode
  simp only [hb, hs]
def runesR : Nat → ByteArray → Option (List Nat)
  | 0, _ => none
  | f + 1, u => if u.size = 0 then some [] else if (runeR u).2 = 0 then none else (runesR f (u.extract (runeR u).2 u.size)).map ((runeR u).1 :: ·)
theorem extract_extract (u : ByteArray) (p n : Nat) (hp : p + n ≤ u.size) : (u.extract p u.size).extract n (u.extract p u.size).size = u.extract (p + n) u.size := by
  rw [ByteArray.extract_extract, size_extract u p (by omega)]
  congr 1; omega
theorem name_loop (u : ByteArray) : ∀ (f p : Nat) (l : List Nat), p ≤ u.size → runesR f (u.extract p u.size) = some l → (∀ r ∈ l, ¬ (r < 32 ∨ (127 ≤ r ∧ r ≤ 159))) → nameLoop u f p = true
  | 0, p, l, _, h, _ => by simp [runesR] at h
  | f + 1, p, l, hp, h, hl => by
    unfold runesR at h
    unfold nameLoop
    by_cases h0 : u.size ≤ p
    · rw [if_pos h0]
    · rw [if_neg h0]
      rw [if_neg (by rw [size_extract u p hp]; omega)] at h
      by_cases h1 : (runeR (u.extract p u.size)).2 = 0
      · rw [if_pos h1] at h; cases h
      · rw [if_neg h1] at h
        obtain ⟨k1, k2, k3, k4⟩ := rune_decode (u := u.extract p u.size) (r := (runeR (u.extract p u.size)).1) (n := (runeR (u.extract p u.size)).2) rfl h1
        rw [decode_extract u p hp] at k1
        rw [size_extract u p hp] at k4
        rw [k1]
        simp only
        rw [extract_extract u p _ (by omega)] at h
        cases hq : runesR f (u.extract (p + (runeR (u.extract p u.size)).2) u.size) with
        | none => rw [hq] at h; cases h
        | some l' =>
          rw [hq] at h
          cases h
          have h2 := hl _ (List.mem_cons_self ..)
          rw [if_neg h2, if_neg (by intro h3; exact h3.2 (k2 h3.1))]
          exact name_loop u f _ l' (by omega) hq fun r hr => hl r (List.mem_cons_of_mem _ hr)
set_option maxRecDepth 100000 in
theorem decode_rep (u : ByteArray) (p : Nat) (h : Utf8.decode u p = (65533, 3)) : p + 3 ≤ u.size ∧ bt u p = 239 ∧ bt u (p + 1) = 191 ∧ bt u (p + 2) = 189 := by
  have c0 := bt_lt u p
  have c1 := bt_lt u (p + 1)
  have c2 := bt_lt u (p + 2)
  unfold Utf8.decode at h
  simp only [Nat.add_zero] at h
  have no : ∀ a b : Nat, b ≠ 3 → (a, b) = (65533, 3) → False := fun a b hb h9 => hb (congrArg Prod.snd h9)
  split at h
  · exact (no _ _ (by omega) h).elim
  split at h
  · split at h <;> exact (no _ _ (by omega) h).elim
  split at h
  · rename_i h3
    simp only [Bool.and_eq_true, beq_iff_eq, decide_eq_true_eq] at h3
    split at h
    · have h4 := congrArg Prod.fst h
      simp only at h4
      simp only [bt] at *
      omega
    · exact (no _ _ (by omega) h).elim
  split at h
  · split at h <;> exact (no _ _ (by omega) h).elim
  · exact (no _ _ (by omega) h).elim
theorem rep_extract (u : ByteArray) (p : Nat) (h : Utf8.decode u p = (65533, 3)) : u.extract p (p + 3) = ⟨#[239, 191, 189]⟩ := by
  obtain ⟨h1, h2, h3, h4⟩ := decode_rep u p h
  have hs : u.data.toList.length = u.size := by simp
  have key : ∀ i, i < 3 → (u.extract p (p + 3)).data.toList[i]? = u.data.toList[p + i]? := by
    intro i hi
    simp only [ByteArray.data_extract, Array.toList_extract, List.extract_eq_take_drop]
    rw [List.getElem?_take, if_pos (by omega), List.getElem?_drop]
  have hb : ∀ i n, p + i < u.size → bt u (p + i) = n → u.data.toList[p + i]? = some (UInt8.ofNat n) := by
    intro i n hi hn
    rw [bt_data] at hn
    rw [List.getD_eq_getElem?_getD, List.getElem?_eq_getElem (by rw [hs]; exact hi)] at hn
    rw [List.getElem?_eq_getElem (by rw [hs]; exact hi)]
    simp only [Option.getD_some] at hn
    rw [← hn]; simp
  have e : (u.extract p (p + 3)).data.toList = [239, 191, 189] := by
    apply List.ext_getElem?
    intro i
    by_cases hi : i < 3
    · rw [key i hi]
      have : i = 0 ∨ i = 1 ∨ i = 2 := by omega
      rcases this with rfl | rfl | rfl
      · rw [hb 0 239 (by omega) h2]; rfl
      · rw [hb 1 191 (by omega) h3]; rfl
      · rw [hb 2 189 (by omega) h4]; rfl
    · rw [List.getElem?_eq_none (by simp [ByteArray.data_extract]; omega), List.getElem?_eq_none (by simp; omega)]
  have e2 : (u.extract p (p + 3)).data = #[239, 191, 189] := by
    rw [← Array.toList_inj, e]
  have : u.extract p (p + 3) = ⟨(u.extract p (p + 3)).data⟩ := rfl
  rw [this, e2]
end Go.Proofs.YtkmocipdekogkaaGreatDoor
end
section
namespace Go.Proofs.YtkmocipdekogkaaGreatDoor
set_option linter.unusedVariables false
set_option linter.unusedSimpArgs false
open Go.RowKit

def repU : ByteArray := ⟨#[239, 191, 189]⟩
set_option maxRecDepth 100000 in
theorem pre344 (s : ByteArray) (w : World) (h1 : 3 ≤ s.size) (h2 : s.extract 0 3 = repU) : Calls Tryz.prog 344 #[.string s, .string repU] w fun e w' => e = .returned (.bool true) ∧ w = w' := by
  have e : repU.size = 3 := rfl
  go_enter Tryz.func344, Tryz.ntmps344
  go_wp2_with fail
  go_ret
  exact ⟨by simp, rfl⟩
set_option maxRecDepth 100000 in
theorem pre289 (s : ByteArray) (w : World) (h1 : 3 ≤ s.size) (h2 : s.extract 0 3 = repU) : Calls Tryz.prog 289 #[.string s, .string repU] w fun e w' => e = .returned (.bool true) ∧ w = w' := by
  go_enter Tryz.func289, Tryz.ntmps289
  go_wp2_with (refine (pre344 _ _ h1 h2).mono ?_; rintro e w' ⟨rfl, rfl⟩)
  go_ret
  exact ⟨rfl, rfl⟩
end Go.Proofs.YtkmocipdekogkaaGreatDoor
end
section
namespace Go.Proofs.YtkmocipdekogkaaGreatDoor
set_option linter.unusedVariables false
set_option linter.unusedSimpArgs false
open Go.RowKit

theorem width_pos (s : ByteArray) (pos : Nat) (h : pos < s.size) : 1 ≤ (Utf8.decode s pos).2 := by
  by_cases ha : (s[pos]'h).toNat < 128
  · rw [decode_ascii s pos h ha]
    exact Nat.le_refl _
  · exact (decode_high s pos h (by omega)).2
theorem nameLoop_step {u : ByteArray} {f pos : Nat} (hp : pos < u.size) (h : nameLoop u f pos = true) : ∃ f', ¬ (((Utf8.decode u pos).1 : Int) < 32) ∧ ¬ ((127 : Int) ≤ (Utf8.decode u pos).1 ∧ ((Utf8.decode u pos).1 : Int) ≤ 159) ∧ (((Utf8.decode u pos).1 : Int) = 65533 → Utf8.decode u pos = (65533, 3)) ∧ nameLoop u f' (pos + (Utf8.decode u pos).2) = true := by
  cases f with
  | zero => simp [nameLoop] at h
  | succ f =>
    unfold nameLoop at h
    rw [if_neg (by omega)] at h
    split at h
    · cases h
    rename_i h1
    split at h
    · cases h
    rename_i h2
    refine ⟨f, by omega, by omega, fun h3 => ?_, h⟩
    have h4 : (Utf8.decode u pos).1 = 65533 := by omega
    have h5 : (Utf8.decode u pos).2 = 3 := by
      rcases Nat.decEq (Utf8.decode u pos).2 3 with h | h
      · exact absurd ⟨h4, h⟩ h2
      · exact h
    exact Prod.ext h4 h5
theorem tail_rep {u : ByteArray} {pos : Nat} (h : Utf8.decode u pos = (65533, 3)) : 3 ≤ (u.extract pos u.size).size ∧ (u.extract pos u.size).extract 0 3 = repU := by
  obtain ⟨h1, _⟩ := decode_rep u pos h
  refine ⟨by rw [ByteArray.size_extract]; omega, ?_⟩
  rw [ByteArray.extract_extract]
  have := rep_extract u pos h
  have e : min (pos + 3) u.size = pos + 3 := by omega
  rw [Nat.add_zero, e, this]
  rfl
set_option maxRecDepth 100000 in
set_option maxHeartbeats 1000000 in
theorem name205 (u : ByteArray) (w : World) (h1 : 1 ≤ u.size) (h2 : u.size ≤ 32) (h3 : nameLoop u 33 0 = true) : Calls Tryz.prog 205 #[.string u] w fun e w' => e = .returned (.int .i64 0) ∧ Below w.heap.size w w' := by
  have he : u.toList.isEmpty = false := by
    have hs : u.toList.length = u.size := by rw [ByteArray.toList_eq]; exact Array.length_toList
    cases hq : u.toList with
    | nil => rw [hq] at hs; simp at hs; omega
    | cons a r => rfl
  have hd : decide (32 < (u.size : Int)) = false := by simp; omega
  go_enter Tryz.func205, Tryz.ntmps205
  go_wp2_with fail
  go_loopw [3] (fun n w' => ∃ (pos f : Nat), w' = w.iter u pos ∧ nameLoop u f pos = true) (fun _ w' => u.size - w'.iterPos w.heap.size)
  case atStart => exact ⟨0, 33, rfl, h3⟩
  case round =>
    obtain ⟨pos, f, rfl, hf⟩ := hrel
    by_cases hp : pos < u.size
    · have hnx : ∀ ty, (Instr.next (.pointer (some ⟨w.heap.size, 0, none⟩)) true ty).run Tryz.prog (w.iter u pos) = _ := fun ty => run_next_any w u pos ty hp
      obtain ⟨f', k1, k2, k3, k4⟩ := nameLoop_step hp hf
      have hwd := width_pos u pos hp
      have hsz : pos + (Utf8.decode u pos).2 ≤ pos + (Utf8.decode u pos).2 := Nat.le_refl _
      have hq : ((Utf8.decode u pos).1 : Int) = 65533 → 3 ≤ (u.extract pos u.size).size ∧ (u.extract pos u.size).extract 0 3 = repU := fun h => tail_rep (k3 h)
      clear k3 hf
      generalize (Utf8.decode u pos).1 = r at *
      generalize (Utf8.decode u pos).2 = n at *
      have d1 : decide ((r : Int) < 32) = false := by simpa using k1
      by_cases hr : (r : Int) = 65533
      · obtain ⟨t1, t2⟩ := hq hr
        have e0 : ((r : Int) == 65533) = true := by simpa using hr
        have d2 : decide ((127 : Int) ≤ r) = true := by simp; omega
        have d3 : decide ((r : Int) ≤ 159) = false := by simp; omega
        clear hq k1 k2
        go_wp2_with (refine (pre289 _ _ t1 t2).mono ?_; rintro e w' ⟨rfl, rfl⟩)
        go_roundw
        case rel => exact ⟨_, f', rfl, k4⟩
        case measure => simp; omega
      · have e0 : ((r : Int) == 65533) = false := by simpa using hr
        clear hq
        by_cases h127 : (127 : Int) ≤ r
        · have d2 : decide ((127 : Int) ≤ r) = true := by simpa using h127
          have d3 : decide ((r : Int) ≤ 159) = false := by simp; omega
          clear k1 k2
          go_wp2_with fail
          go_roundw
          case rel => exact ⟨_, f', rfl, k4⟩
          case measure => simp; omega
        · have d2 : decide ((127 : Int) ≤ r) = false := by simpa using h127
          clear k1 k2
          go_wp2_with fail
          go_roundw
          case rel => exact ⟨_, f', rfl, k4⟩
          case measure => simp; omega
    · have hnx : ∀ ty, (Instr.next (.pointer (some ⟨w.heap.size, 0, none⟩)) true ty).run Tryz.prog (w.iter u pos) = _ := fun ty => run_next_end w u pos ty hp
      go_wp2_with fail
      go_ret
      exact ⟨rfl, bel_0 _ _⟩
end Go.Proofs.YtkmocipdekogkaaGreatDoor
end
section
namespace Go.Proofs.YtkmocipdekogkaaGreatDoor
set_option linter.unusedVariables false
set_option linter.unusedSimpArgs false
open Go.RowKit

def Kr (w : World) (x y : ByteArray) (V : World) : Prop := Below w.heap.size w V ∧ w.heap.size + 1 ≤ V.heap.size ∧ V.cell? ⟨w.heap.size, 5, none⟩ = some (.string x) ∧ V.cell? ⟨w.heap.size, 6, none⟩ = some (.string y)
theorem Kr.drew {w : World} {x y : ByteArray} {V : World} (h : Kr w x y V) : Kr w x y V.drew := ⟨h.1.drew, h.2⟩
theorem Kr.on {w : World} {x y : ByteArray} {V V' : World} (h : Kr w x y V) (k : Below V.heap.size V V') : Kr w x y V' := by
  obtain ⟨h1, h2, h3, h4⟩ := h
  have := k.size
  exact ⟨h1.trans (k.mono (by omega)), by omega, by rw [k.cell (show w.heap.size < V.heap.size by omega)]; exact h3, by rw [k.cell (show w.heap.size < V.heap.size by omega)]; exact h4⟩
theorem Kr.alloc {w : World} {x y : ByteArray} {V : World} (h : Kr w x y V) (o : Obj) : Kr w x y (V.alloc o) := h.on (bel_0 _ _)

theorem newd0 (W : World) (u v : Value) (t : TypeId) : (W.alloc (.cells #[u, v] t)).cell? ⟨W.heap.size, 0, none⟩ = some u := by
  rw [cell_of_row _ W.heap.size 0 #[u, v] t (0, 0) (heap_alloc_new W _)]; rfl
theorem newd1 (W : World) (u v : Value) (t : TypeId) : (W.alloc (.cells #[u, v] t)).cell? ⟨W.heap.size, 1, none⟩ = some v := by
  rw [cell_of_row _ W.heap.size 1 #[u, v] t (0, 0) (heap_alloc_new W _)]; rfl
set_option maxRecDepth 100000 in
set_option maxHeartbeats 8000000 in
theorem right150 (t i p a l : Nat) (x y : ByteArray) (f : Bool) (w : World) (ht : 0 < t) (hi : 0 < i) (ha : a ≤ 1099511627776) (hl : l ≤ 1099511627776)
    (x1 : 1 ≤ x.size) (x2 : x.size ≤ 32) (x3 : nameLoop x 33 0 = true) (y1 : 1 ≤ y.size) (y2 : y.size ≤ 32) (y3 : nameLoop y 33 0 = true) :
    Calls Tryz.prog 150 #[.agg #[.int .u64 t, .int .u64 i, .int .u64 p, .int .u64 a, .int .u64 l, .string x, .string y, .bool f]] w fun e w' => e = .returned (.int .i64 0) ∧ Below w.heap.size w w' := by
  have e1 : ((t : Int) == 0) = false := by simp; omega
  have e2 : ((i : Int) == 0) = false := by simp; omega
  have e4 : decide ((1099511627776 : Int) < l) = false := by simp; omega
  have e5 : decide ((1099511627776 : Int) < a) = false := by simp; omega
  have e6 : decide ((1099511627776 : Int) < if a < l then (l : Int) else a) = false := by split <;> assumption
  have hN : ∀ (u : ByteArray) (V : World), (u = x ∨ u = y) → Calls Tryz.prog 205 #[.string u] V fun e w' => e = .returned (.int .i64 0) ∧ Below V.heap.size V w' := by
    rintro u V (rfl | rfl)
    · exact name205 _ V x1 x2 x3
    · exact name205 _ V y1 y2 y3
  clear ht hi ha hl x1 x2 x3 y1 y2 y3
  go_enter Tryz.func150, Tryz.ntmps150
  go_wp2_with fail
  all_goals try contradiction
  all_goals
    obtain ⟨W, hW⟩ : ∃ W, W = w.alloc (.cells #[.int .u64 t, .int .u64 i, .int .u64 p, .int .u64 a, .int .u64 l, .string x, .string y, .bool f] 36) := ⟨_, rfl⟩
    have k0 : Kr w x y W := by
      rw [hW]
      exact ⟨bel_0 _ _, by simp, by go_simp, by go_simp⟩
    rw [← hW]
    clear hW
    go_region_held3 (fun V => Below w.heap.size w V ∧ w.heap.size + 1 ≤ V.heap.size ∧ V.cell? ⟨w.heap.size, 5, none⟩ = some (.string x) ∧ V.cell? ⟨w.heap.size, 6, none⟩ = some (.string y))
      (first
        | assumption
        | exact Kr.drew (by assumption)
        | exact Kr.alloc (by assumption) _
        | exact Kr.on (by assumption) (by assumption))
      (first
        | (go_at_call 205; refine (hN _ _ (by first | exact .inl rfl | exact .inr rfl)).mono ?_; rintro e w' ⟨rfl, hb⟩)
        | (go_at_call 225; refine (orK_any _ _ _ _ (newd0 _ _ _ _) (newd1 _ _ _ _)).mono ?_; rintro e w' ⟨rfl, rfl⟩))
    go_wp2_with fail
    go_ret
    exact ⟨rfl, (show _ ∧ _ by assumption).1⟩
end Go.Proofs.YtkmocipdekogkaaGreatDoor
end
section
namespace Go.Proofs.YtkmocipdekogkaaGreatDoor
set_option linter.unusedVariables false
set_option linter.unusedSimpArgs false
open Go.RowKit

theorem u64s_step (a b : Nat) (ha : a < 2 ^ 56) (hb : b < 256) : u64s (a : Int) (b : Int) = ((a * 256 + b : Nat) : Int) := by
  unfold u64s
  have e : IntKind.u64.wrap ((a : Int) * 256) = (a : Int) * 256 := by rw [IntKind.wrap_u64]; omega
  rw [e, Go.bits_join .u64 64 (by decide) (fun n h0 h1 => by rw [IntKind.wrap_u64]; omega) 8 _ _ (by omega) (by omega) (by omega) (by omega) (by omega) (by omega)]
  omega
theorem div8 (n m : Nat) : n / 2 ^ (8 * (m + 1)) * 256 + n / 2 ^ (8 * m) % 256 = n / 2 ^ (8 * m) := by
  have e : 2 ^ (8 * (m + 1)) = 2 ^ (8 * m) * 256 := by rw [show 8 * (m + 1) = 8 * m + 8 by omega, Nat.pow_add]
  rw [e, ← Nat.div_div_eq_div_mul]
  omega
def eightI (n : Nat) : List Int := (eightB n).map fun b : Nat => (b : Int)
theorem eight_len (n : Nat) : (eightI n).length = 8 := rfl
theorem eight_le (n : Nat) : ∀ x ∈ eightI n, 0 ≤ x ∧ x ≤ 255 := by
  intro x hx
  simp only [eightI, eightB, List.map_cons, List.map_nil, List.mem_cons, List.not_mem_nil, or_false] at hx
  rcases hx with rfl | rfl | rfl | rfl | rfl | rfl | rfl | rfl <;> omega
theorem eight_num (n : Nat) (hn : n < 2 ^ 64) : u64k (eightI n) 8 = (n : Int) := by
  have st : ∀ m, m ≤ 7 → u64s ((n / 2 ^ (8 * (m + 1)) : Nat) : Int) ((n / 2 ^ (8 * m) % 256 : Nat) : Int) = ((n / 2 ^ (8 * m) : Nat) : Int) := by
    intro m h7
    rw [u64s_step _ _ ?_ (Nat.mod_lt _ (by decide)), div8]
    rw [Nat.div_lt_iff_lt_mul (Nat.pow_pos (by decide)), ← Nat.pow_add]
    exact Nat.lt_of_lt_of_le hn (Nat.pow_le_pow_right (by decide) (by omega))
  have s7 := st 7 (by omega)
  have s6 := st 6 (by omega)
  have s5 := st 5 (by omega)
  have s4 := st 4 (by omega)
  have s3 := st 3 (by omega)
  have s2 := st 2 (by omega)
  have s1 := st 1 (by omega)
  have s0 := st 0 (by omega)
  have z : ((n / 2 ^ (8 * (7 + 1)) : Nat) : Int) = 0 := by
    have : n / 2 ^ (8 * (7 + 1)) = 0 := Nat.div_eq_of_lt hn
    rw [this]; rfl
  rw [z] at s7
  have e0 : n / 2 ^ (8 * 0) = n := by simp
  rw [e0] at s0
  have key : u64k (eightI n) 8 = u64s (u64s (u64s (u64s (u64s (u64s (u64s (u64s 0 ((n / 2 ^ (8 * 7) % 256 : Nat) : Int)) ((n / 2 ^ (8 * 6) % 256 : Nat) : Int)) ((n / 2 ^ (8 * 5) % 256 : Nat) : Int)) ((n / 2 ^ (8 * 4) % 256 : Nat) : Int)) ((n / 2 ^ (8 * 3) % 256 : Nat) : Int)) ((n / 2 ^ (8 * 2) % 256 : Nat) : Int)) ((n / 2 ^ (8 * 1) % 256 : Nat) : Int)) ((n % 256 : Nat) : Int) := by
    simp only [u64k, eightI, eightB, List.map_cons, List.map_nil, List.take_succ_cons, List.take_zero, List.foldl_cons, List.foldl_nil]
  rw [key, s7, s6, s5, s4, s3, s2, s1, s0]

/-- A reader that has not failed: what is left of its bytes. -/
def Rdr (W : World) (R g off len cap : Nat) : Prop := W.cell? ⟨R, 0, none⟩ = some (.slice (some ⟨g, off, none⟩) len cap) ∧ W.frozen? ⟨R, 0, none⟩ = false ∧ W.cell? ⟨R, 1, none⟩ = some (.int .i64 0) ∧ W.frozen? ⟨R, 1, none⟩ = false

set_option maxRecDepth 100000 in
set_option maxHeartbeats 1000000 in
theorem take239 (R g off len cap n : Nat) (w : World) (h : Rdr w R g off len cap) (hn : n ≤ len) (hc : len ≤ cap) (h0 : n < cap) :
    Calls Tryz.prog 239 #[.pointer (some ⟨R, 0, none⟩), .int .i64 n] w fun e w' => e = .returned (.slice (some ⟨g, off, none⟩) n cap) ∧ w' = w.setCell ⟨R, 0, none⟩ (.slice (some ⟨g, off + n, none⟩) (len - n) (cap - n)) := by
  obtain ⟨k1, k2, k3, k4⟩ := h
  have d1 : decide ((len : Int) < n) = false := by simp; omega
  go_enter Tryz.func239, Tryz.ntmps239
  go_wp2_with fail
  go_ret
  exact ⟨rfl, rfl⟩
set_option maxRecDepth 100000 in
set_option maxHeartbeats 1000000 in
/-- The last bytes. -/
theorem takeAll239 (R g off n : Nat) (w : World) (h : Rdr w R g off n n) :
    Calls Tryz.prog 239 #[.pointer (some ⟨R, 0, none⟩), .int .i64 n] w fun e w' => e = .returned (.slice (some ⟨g, off, none⟩) n n) ∧ w' = w.setCell ⟨R, 0, none⟩ (.slice (some ⟨g, off, none⟩) 0 0) := by
  obtain ⟨k1, k2, k3, k4⟩ := h
  have d1 : decide ((n : Int) < n) = false := by simp
  go_enter Tryz.func239, Tryz.ntmps239
  go_wp2_with fail
  go_ret
  exact ⟨rfl, by simp⟩
/-- Bytes, whichever. -/
theorem takeAny239 (R g off len cap n : Nat) (w : World) (h : Rdr w R g off len cap) (hn : n ≤ len) (hc : len ≤ cap) :
    Calls Tryz.prog 239 #[.pointer (some ⟨R, 0, none⟩), .int .i64 n] w fun e w' => ∃ a : Addr, (n < cap → a = ⟨g, off + n, none⟩) ∧ e = .returned (.slice (some ⟨g, off, none⟩) n cap) ∧ w' = w.setCell ⟨R, 0, none⟩ (.slice (some a) (len - n) (cap - n)) := by
  rcases Nat.lt_or_ge n cap with h0 | h0
  · exact (take239 R g off len cap n w h hn hc h0).mono fun e w' ⟨h1, h2⟩ => ⟨_, fun _ => rfl, h1, h2⟩
  · have e1 : n = cap := by omega
    have e2 : len = cap := by omega
    subst e1 e2
    exact (takeAll239 R g off len w h).mono fun e w' ⟨h1, h2⟩ => ⟨⟨g, off, none⟩, fun h => absurd h (Nat.lt_irrefl _), h1, by rw [h2, Nat.sub_self]⟩
theorem setCell_other {W : World} {a b : Addr} (v : Value) (h : a ≠ b) : (W.setCell a v).cell? b = W.cell? b := World.cell?_setCell_other W a b v h
theorem Rdr.set {W : World} {R g off len cap : Nat} (h : Rdr W R g off len cap) (g' off' len' cap' : Nat) : Rdr (W.setCell ⟨R, 0, none⟩ (.slice (some ⟨g', off', none⟩) len' cap')) R g' off' len' cap' := by
  obtain ⟨h1, h2, h3, h4⟩ := h
  exact ⟨(by simp [go_sem, h1]), by simpa [go_sem] using h2, (setCell_other _ (by simp)).trans h3, by simpa [go_sem] using h4⟩
/-- A row's cells from a place on. -/
def Bts (W : World) (g off : Nat) (l : List Int) : Prop := ∀ i, i < l.length → W.cell? ⟨g, off + i, none⟩ = some (.int .u8 (l.getD i 0))
theorem Bts.set {W : World} {g off : Nat} {l : List Int} (h : Bts W g off l) {R : Nat} (hR : R ≠ g) (v : Value) : Bts (W.setCell ⟨R, 0, none⟩ v) g off l := fun i hi => (setCell_other _ (by simp [hR])).trans (h i hi)
theorem Bts.left {W : World} {g off : Nat} {l r : List Int} (h : Bts W g off (l ++ r)) : Bts W g off l := fun i hi => by
  rw [h i (by simp; omega)]
  congr 2
  rw [List.getD_eq_getElem?_getD, List.getD_eq_getElem?_getD, List.getElem?_append_left hi]
theorem Bts.right {W : World} {g off : Nat} {l r : List Int} (h : Bts W g off (l ++ r)) : Bts W g (off + l.length) r := fun i hi => by
  rw [Nat.add_assoc, h (l.length + i) (by simp; omega)]
  congr 2
  rw [List.getD_eq_getElem?_getD, List.getD_eq_getElem?_getD, List.getElem?_append_right (by omega)]
  congr 2; omega

set_option maxRecDepth 100000 in
set_option maxHeartbeats 1000000 in
theorem number165 (R g off len cap n : Nat) (w : World) (h : Rdr w R g off len cap) (hR : R ≠ g) (h8 : 8 ≤ len) (hc : len ≤ cap) (h0 : 8 < cap) (hn : n < 2 ^ 64) (hb : Bts w g off (eightI n)) :
    Calls Tryz.prog 165 #[.pointer (some ⟨R, 0, none⟩)] w fun e w' => e = .returned (.int .u64 n) ∧ w' = w.setCell ⟨R, 0, none⟩ (.slice (some ⟨g, off + 8, none⟩) (len - 8) (cap - 8)) := by
  have hT := take239 R g off len cap 8 w h h8 hc h0
  have hb2 := hb.set hR (.slice (some ⟨g, off + 8, none⟩) (len - 8) (cap - 8))
  have hU := u64_any g off (eightI n) 8 cap (w.setCell ⟨R, 0, none⟩ (.slice (some ⟨g, off + 8, none⟩) (len - 8) (cap - 8))) rfl (by omega) (by omega) (fun i hi => hb2 i hi) (eight_le n)
  rw [eight_num n hn] at hU
  clear hb hb2 hn h8 hc h0
  go_enter Tryz.func165, Tryz.ntmps165
  go_wp2_with (first | (refine hT.mono ?_; rintro e w' ⟨rfl, rfl⟩) | (refine hU.mono ?_; rintro e w' ⟨rfl, rfl⟩))
  go_ret
  exact ⟨rfl, rfl⟩
set_option maxRecDepth 100000 in
set_option maxHeartbeats 1000000 in
theorem small166 (R g off len cap c lo hi : Nat) (w : World) (h : Rdr w R g off len cap) (hR : R ≠ g) (h8 : 1 ≤ len) (hc : len ≤ cap) (h0 : 1 < cap) (hlo : lo ≤ c) (hhi : c ≤ hi) (hb : w.cell? ⟨g, off, none⟩ = some (.int .u8 c)) :
    Calls Tryz.prog 166 #[.pointer (some ⟨R, 0, none⟩), .int .u8 lo, .int .u8 hi] w fun e w' => e = .returned (.int .u8 c) ∧ w' = w.setCell ⟨R, 0, none⟩ (.slice (some ⟨g, off + 1, none⟩) (len - 1) (cap - 1)) := by
  have hT := take239 R g off len cap 1 w h h8 hc h0
  obtain ⟨k1, k2, k3, k4⟩ := h.set g (off + 1) (len - 1) (cap - 1)
  have hb2 : (w.setCell ⟨R, 0, none⟩ (.slice (some ⟨g, off + 1, none⟩) (len - 1) (cap - 1))).cell? ⟨g, off, none⟩ = some (.int .u8 c) := (setCell_other _ (by simp [hR])).trans hb
  have d1 : decide ((c : Int) < lo) = false := by simp; omega
  have d2 : decide ((hi : Int) < c) = false := by simp; omega
  have d3 : ¬ c < lo := by omega
  have d4 : ¬ hi < c := by omega
  clear hb h8 hc h0 hlo hhi h
  generalize w.setCell ⟨R, 0, none⟩ (.slice (some ⟨g, off + 1, none⟩) (len - 1) (cap - 1)) = w1 at *
  go_enter Tryz.func166, Tryz.ntmps166
  go_wp2_with (refine hT.mono ?_; rintro e w' ⟨rfl, rfl⟩)
  go_ret
  exact ⟨rfl, rfl⟩
def strI (u : ByteArray) : List Int := u.data.toList.map fun b => (b.toNat : Int)
theorem strI_len (u : ByteArray) : (strI u).length = u.size := by simp [strI]
theorem push_all (l : List UInt8) : ∀ (s : ByteArray), ((l.map fun b => (b.toNat : Int)).foldl (fun r n => r.push (UInt8.ofNat n.toNat)) s) = ⟨(s.data.toList ++ l).toArray⟩ := by
  induction l with
  | nil => intro s; simp
  | cons b r ih =>
    intro s
    simp only [List.map_cons, List.foldl_cons]
    rw [ih]
    simp [ByteArray.push]
theorem conv_text (u : ByteArray) (g off c : Nat) (W : World) (hb : Bts W g off (strI u)) : (convert 38 9 (.slice (some ⟨g, off, none⟩) u.size c)).run Tryz.prog W = .ok (.string u) W := by
  rw [run_convert_bytes_string W 38 9 5 _ _ _ Tryz.underlying38 Tryz.underlying5 Tryz.underlying9]
  have hl := run_loadCells_list (P := Tryz.prog) W ⟨g, off, none⟩ ((strI u).map (Value.int .u8)) (fun j v hj => by
    have hlt : j < (strI u).length := by
      rcases Nat.lt_or_ge j (strI u).length with h | h
      · exact h
      · rw [List.getElem?_eq_none (by simpa using h)] at hj; cases hj
    have := hb j hlt
    rw [show (⟨g, off, none⟩ : Addr).add j = ⟨g, off + j, none⟩ by unfold Addr.add; split <;> simp_all]
    rw [this, ← hj, List.getElem?_map, List.getD_eq_getElem?_getD, List.getElem?_eq_getElem hlt]
    rfl)
  have e1 : ((strI u).map (Value.int .u8)).length = u.size := by simp [strI_len]
  rw [e1] at hl
  rw [run_bytesToString W ⟨g, off, none⟩ u.size c (strI u) hl]
  have e2 : (strI u).foldl (fun r n => r.push (UInt8.ofNat n.toNat)) ByteArray.empty = u := by
    unfold strI
    rw [push_all]
    simp
  rw [e2]
set_option maxRecDepth 100000 in
set_option maxHeartbeats 1000000 in
theorem text167 (R g off len cap : Nat) (u : ByteArray) (w : World) (h : Rdr w R g off len cap) (hR : R ≠ g) (h1 : 1 ≤ u.size) (h2 : u.size ≤ 32) (h8 : 1 + u.size ≤ len) (hc : len ≤ cap) (hb : Bts w g off ((u.size : Int) :: strI u)) :
    Calls Tryz.prog 167 #[.pointer (some ⟨R, 0, none⟩)] w fun e w' => ∃ a : Addr, (1 + u.size < cap → a = ⟨g, off + (1 + u.size), none⟩) ∧ e = .returned (.string u) ∧ w' = (w.setCell ⟨R, 0, none⟩ (.slice (some ⟨g, off + 1, none⟩) (len - 1) (cap - 1))).setCell ⟨R, 0, none⟩ (.slice (some a) (len - 1 - u.size) (cap - 1 - u.size)) := by
  have hS := small166 R g off len cap u.size 1 32 w h hR (by omega) hc (by omega) h1 h2 (by have := hb 0 (by simp); simpa using this)
  have h' := h.set g (off + 1) (len - 1) (cap - 1)
  have hT := takeAny239 R g (off + 1) (len - 1) (cap - 1) u.size _ h' (by omega) (by omega)
  obtain ⟨k1, k2, k3, k4⟩ := h'
  have hb2 := (show Bts w g (off + 1) (strI u) from Bts.right (l := [(u.size : Int)]) hb).set hR (.slice (some ⟨g, off + 1, none⟩) (len - 1) (cap - 1))
  have hcv : ∀ v, (convert 38 9 (.slice (some ⟨g, off + 1, none⟩) u.size (cap - 1))).run Tryz.prog ((w.setCell ⟨R, 0, none⟩ (.slice (some ⟨g, off + 1, none⟩) (len - 1) (cap - 1))).setCell ⟨R, 0, none⟩ v) = .ok (.string u) ((w.setCell ⟨R, 0, none⟩ (.slice (some ⟨g, off + 1, none⟩) (len - 1) (cap - 1))).setCell ⟨R, 0, none⟩ v) := fun v => by
    have hb3 := (show Bts w g (off + 1) (strI u) from Bts.right (l := [(u.size : Int)]) hb).set hR (.slice (some ⟨g, off + 1, none⟩) (len - 1) (cap - 1))
    exact conv_text u g (off + 1) (cap - 1) _ (hb3.set hR v)
  clear hb h8 hc h hb2
  generalize hW : w.setCell ⟨R, 0, none⟩ (.slice (some ⟨g, off + 1, none⟩) (len - 1) (cap - 1)) = w1 at *
  go_enter Tryz.func167, Tryz.ntmps167
  go_wp2_with (first | (refine hS.mono ?_; rintro e w' ⟨rfl, rfl⟩) | (refine hT.mono ?_; rintro e w' ⟨a, ha, rfl, rfl⟩))
  go_ret
  exact ⟨a, fun h => by rw [ha (by omega)]; congr 1; omega, rfl, rfl⟩
end Go.Proofs.YtkmocipdekogkaaGreatDoor
end
section
namespace Go.Proofs.YtkmocipdekogkaaGreatDoor
set_option linter.unusedVariables false
set_option linter.unusedSimpArgs false
open Go.RowKit

theorem eqNil38 (a : Addr) (c : Nat) (W : World) : (binOp .eql 38 (.slice (some a) 0 c) (.slice none 0 0)).run Tryz.prog W = .ok (.bool false) W := by
  have he : (Op.equal 38 (.slice (some a) 0 c) (.slice none 0 0)).run Tryz.prog W = .ok false W := by
    show (Op.equalIn (9999 + 1) 38 _ _).run Tryz.prog W = _
    rw [Op.equalIn]
    simp only [Sem.run_bind, run_underlying Tryz.underlying38, Result.andThen_ok]
    simp
  have e1 : binOp .eql 38 (.slice (some a) 0 c) (.slice none 0 0) = (do pure (.bool (← Op.equal 38 (.slice (some a) 0 c) (.slice none 0 0)))) := by
    unfold binOp
    rfl
  rw [e1]
  simp [he]
set_option maxRecDepth 100000 in
set_option maxHeartbeats 1000000 in
theorem clone140 (a : Addr) (c : Nat) (w : World) : Calls Tryz.prog 140 #[.slice (some a) 0 c] w fun e w' => (∃ b n, e = .returned (.slice (some b) 0 n)) ∧ Below w.heap.size w w' := by
  obtain ⟨i0, hi, hz0, hz1, hz2⟩ := info_parts info5
  have own : (w.alloc (.cells #[] 5)).ownsRow w.heap.size 5 1 (.slice (some ⟨w.heap.size, 0, none⟩) 0 0) 0 [] :=
    World.ownsRow_lit w #[] 0 (Nat.le_refl _) (Nat.zero_le _) rfl
  have bel : Below w.heap.size w (w.alloc (.cells #[] 5)) := (Below.refl _ _).alloc (Nat.le_refl _) _
  have heq := eqNil38 a c
  go_enter Tryz.func140, Tryz.ntmps140
  go_wp2_with (at_builtin; refine wpList_append_own _ rfl (.tmp 5) (.tmp 6) 38 rfl w.heap.size 5 i0 _ 1 1 Tryz.underlying38 hi hz0 hz1 hz2 rfl (by decide) (.slice (some ⟨w.heap.size, 0, none⟩) 0 0) 0 [] rfl own a 0 c [] rfl rfl (by intro j u hj; simp at hj) (by intro u hu; cases hu) (by unfold maxLen; omega) (by omega) (by simp) ?_; intro v2 W2 hown2 hgrow2 hnil2)
  obtain ⟨_, ⟨rfl, _⟩ | ⟨g, cap, cur, rfl, _⟩⟩ := hown2
  · have := hnil2.1 rfl
    simp at this
  · go_wp2_with fail
    go_ret
    exact ⟨⟨_, _, rfl⟩, bel.grown hgrow2 (by simp) (fun k hk => by simp [Value.ownBlock] at hk; omega)⟩
/-! ### The reader of one span, in the world as it is written out -/
theorem Bts.alloc {W : World} {g off : Nat} {l : List Int} (h : Bts W g off l) (o : Obj) : Bts (W.alloc o) g off l := fun i hi => by rw [World.cell?_alloc_lt _ _ _ (World.block_lt_of_cell? W _ (h i hi))]; exact h i hi
def rdrW (w : World) (A : Array Value) (x : Value) : World := (w.alloc (.cells A 36)).alloc (.cells #[x, .int .i64 0] 303)
theorem rdr_at (w : World) (A : Array Value) (g off len cap : Nat) : Rdr (rdrW w A (.slice (some ⟨g, off, none⟩) len cap)) (w.heap.size + 1) g off len cap := by
  unfold rdrW
  exact ⟨by go_simp, by go_simp, by go_simp, by go_simp⟩
theorem rdr_set (w : World) (A : Array Value) (x y : Value) : (rdrW w A x).setCell ⟨w.heap.size + 1, 0, none⟩ y = rdrW w A y := by
  unfold rdrW
  go_simp
theorem nAt (w : World) (A : Array Value) (g off len cap n : Nat) (hg : g < w.heap.size) (h8 : 8 ≤ len) (hc : len ≤ cap) (h0 : 8 < cap) (hn : n < 2 ^ 64) (hb : Bts w g off (eightI n)) :
    Calls Tryz.prog 165 #[.pointer (some ⟨w.heap.size + 1, 0, none⟩)] (rdrW w A (.slice (some ⟨g, off, none⟩) len cap)) fun e w' => e = .returned (.int .u64 n) ∧ w' = rdrW w A (.slice (some ⟨g, off + 8, none⟩) (len - 8) (cap - 8)) :=
  (number165 (w.heap.size + 1) g off len cap n _ (rdr_at w A g off len cap) (by omega) h8 hc h0 hn ((hb.alloc _).alloc _)).mono fun e w' ⟨h1, h2⟩ => ⟨h1, by rw [h2, rdr_set]⟩
theorem sAt (w : World) (A : Array Value) (g off len cap c lo hi : Nat) (hg : g < w.heap.size) (h8 : 1 ≤ len) (hc : len ≤ cap) (h0 : 1 < cap) (hlo : lo ≤ c) (hhi : c ≤ hi) (hb : Bts w g off [(c : Int)]) :
    Calls Tryz.prog 166 #[.pointer (some ⟨w.heap.size + 1, 0, none⟩), .int .u8 lo, .int .u8 hi] (rdrW w A (.slice (some ⟨g, off, none⟩) len cap)) fun e w' => e = .returned (.int .u8 c) ∧ w' = rdrW w A (.slice (some ⟨g, off + 1, none⟩) (len - 1) (cap - 1)) :=
  (small166 (w.heap.size + 1) g off len cap c lo hi _ (rdr_at w A g off len cap) (by omega) h8 hc h0 hlo hhi (by have := ((hb.alloc (.cells A 36)).alloc (.cells #[.slice (some ⟨g, off, none⟩) len cap, .int .i64 0] 303)) 0 (by simp); unfold rdrW; simpa using this)).mono fun e w' ⟨h1, h2⟩ => ⟨h1, by rw [h2, rdr_set]⟩
theorem tAt (w : World) (A : Array Value) (g off len cap : Nat) (u : ByteArray) (hg : g < w.heap.size) (h1 : 1 ≤ u.size) (h2 : u.size ≤ 32) (h8 : 1 + u.size ≤ len) (hc : len ≤ cap) (hb : Bts w g off ((u.size : Int) :: strI u)) :
    Calls Tryz.prog 167 #[.pointer (some ⟨w.heap.size + 1, 0, none⟩)] (rdrW w A (.slice (some ⟨g, off, none⟩) len cap)) fun e w' => ∃ a : Addr, (1 + u.size < cap → a = ⟨g, off + (1 + u.size), none⟩) ∧ e = .returned (.string u) ∧ w' = rdrW w A (.slice (some a) (len - 1 - u.size) (cap - 1 - u.size)) :=
  (text167 (w.heap.size + 1) g off len cap u _ (rdr_at w A g off len cap) (by omega) h1 h2 h8 hc ((hb.alloc _).alloc _)).mono fun e w' ⟨a, k1, k2, k3⟩ => ⟨a, k1, k2, by rw [k3, rdr_set, rdr_set]⟩
end Go.Proofs.YtkmocipdekogkaaGreatDoor
end
section
namespace Go.Proofs.YtkmocipdekogkaaGreatDoor
set_option linter.unusedVariables false
set_option linter.unusedSimpArgs false
open Go.RowKit

theorem At.setCell {W : World} {L L' : List (Nat × Nat × Value)} (h : At W L) (b o : Nat) (v : Value) (hs : ∀ x ∈ L', x ∈ L ∧ ¬ (b = x.1 ∧ o = x.2.1)) : At (W.setCell ⟨b, o, none⟩ v) L' := fun x hx => by
  obtain ⟨h1, h2⟩ := hs x hx
  obtain ⟨h3, h4⟩ := h x h1
  refine ⟨(setCell_other _ (by intro e; injection e with e1 e2; exact h2 ⟨e1, e2⟩)).trans h3, ?_⟩
  simpa [go_sem] using h4
def spanV (t i p a l : Nat) (x y : ByteArray) (f : Bool) : Array Value := #[.int .u64 t, .int .u64 i, .int .u64 p, .int .u64 a, .int .u64 l, .string x, .string y, .bool f]
set_option maxRecDepth 100000 in
set_option maxHeartbeats 4000000 in
theorem cut100 (t i p a l : Nat) (x y : ByteArray) (f : Bool) (g c L : Nat) (w : World) (hg : g < w.heap.size) (hL : L = 43 + x.size + y.size) (hc : L ≤ c)
    (ht : 0 < t) (ht2 : t < 2 ^ 64) (hi : 0 < i) (hi2 : i < 2 ^ 64) (hp : p < 2 ^ 64) (ha : a ≤ 1099511627776) (hl : l ≤ 1099511627776)
    (x1 : 1 ≤ x.size) (x2 : x.size ≤ 32) (x3 : nameLoop x 33 0 = true) (y1 : 1 ≤ y.size) (y2 : y.size ≤ 32) (y3 : nameLoop y 33 0 = true)
    (b0 : Bts w g 0 (eightI t)) (b1 : Bts w g 8 (eightI i)) (b2 : Bts w g 16 (eightI p)) (b3 : Bts w g 24 (eightI a)) (b4 : Bts w g 32 (eightI l)) (b5 : Bts w g 40 [((bif f then 1 else 0 : Nat) : Int)])
    (b6 : Bts w g 41 ((x.size : Int) :: strI x)) (b7 : Bts w g (42 + x.size) ((y.size : Int) :: strI y)) :
    Calls Tryz.prog 100 #[.slice (some ⟨g, 0, none⟩) L c] w fun e w' => (∃ q n, e = .returned (.tuple #[.agg (spanV t i p a l x y f), .slice (some q) 0 n, .int .i64 0])) ∧ Below w.heap.size w w' := by
  have N0 := fun A => nAt w A g 0 L c t hg (by omega) hc (by omega) ht2 b0
  have N1 := fun A => nAt w A g 8 (L - 8) (c - 8) i hg (by omega) (by omega) (by omega) hi2 b1
  have N2 := fun A => nAt w A g 16 (L - 16) (c - 16) p hg (by omega) (by omega) (by omega) hp b2
  have N3 := fun A => nAt w A g 24 (L - 24) (c - 24) a hg (by omega) (by omega) (by omega) (by omega) b3
  have N4 := fun A => nAt w A g 32 (L - 32) (c - 32) l hg (by omega) (by omega) (by omega) (by omega) b4
  have S5 := fun A => sAt w A g 40 (L - 40) (c - 40) (bif f then 1 else 0) 0 1 hg (by omega) (by omega) (by omega) (by omega) (by cases f <;> decide) b5
  have T6 := fun A => tAt w A g 41 (L - 41) (c - 41) x hg x1 x2 (by omega) (by omega) b6
  have T7 := fun A => tAt w A g (42 + x.size) (L - 41 - 1 - x.size) (c - 41 - 1 - x.size) y hg y1 y2 (by omega) (by omega) b7
  have RT := fun W => right150 t i p a l x y f W ht hi ha hl x1 x2 x3 y1 y2 y3
  have H8 : L - 8 - 8 = L - 16 ∧ c - 8 - 8 = c - 16 ∧ L - 16 - 8 = L - 24 ∧ c - 16 - 8 = c - 24 ∧ L - 24 - 8 = L - 32 ∧ c - 24 - 8 = c - 32 ∧ L - 32 - 8 = L - 40 ∧ c - 32 - 8 = c - 40 ∧ L - 40 - 1 = L - 41 ∧ c - 40 - 1 = c - 41 := by omega
  obtain ⟨l1, c1, l2, c2, l3, c3, l4, c4, l5, c5⟩ := H8
  simp only [l1, c1, l2, c2, l3, c3, l4, c4, l5, c5, rdrW, Nat.zero_add, Nat.reduceAdd] at N0 N1 N2 N3 N4 S5 T6 T7
  have hend : L - 41 - 1 - x.size - 1 - y.size = 0 := by omega
  have hlt : 1 + x.size < c - 41 := by omega
  simp only [hend] at T7
  clear l1 c1 l2 c2 l3 c3 l4 c4 l5 c5 hend b0 b1 b2 b3 b4 b5 b6 b7 ht ht2 hi hi2 hp ha hl x1 x2 x3 y1 y2 y3 hL hc hg
  unfold spanV
  go_enter Tryz.func100, Tryz.ntmps100
  go_wp2_with fail
  refine (N0 _).mono ?_
  rintro e w' ⟨rfl, rfl⟩
  go_wp2_with fail
  refine (N1 _).mono ?_
  rintro e w' ⟨rfl, rfl⟩
  go_wp2_with fail
  refine (N2 _).mono ?_
  rintro e w' ⟨rfl, rfl⟩
  go_wp2_with fail
  refine (N3 _).mono ?_
  rintro e w' ⟨rfl, rfl⟩
  go_wp2_with fail
  refine (N4 _).mono ?_
  rintro e w' ⟨rfl, rfl⟩
  go_wp2_with fail
  refine (S5 _).mono ?_
  rintro e w' ⟨rfl, rfl⟩
  go_wp2_with fail
  have hf : (((bif f then 1 else 0 : Nat) : Int) == 1) = f := by cases f <;> rfl
  simp only [hf]
  refine (T6 _).mono ?_
  rintro e w' ⟨q1, hq, rfl, rfl⟩
  obtain rfl : q1 = ⟨g, 42 + x.size, none⟩ := by rw [hq hlt]; congr 1; omega
  clear hq
  go_wp2_with fail
  refine (T7 _).mono ?_
  rintro e w' ⟨q2, -, rfl, rfl⟩
  go_wp2_with fail
  refine (RT _).mono ?_
  rintro e w1 ⟨rfl, hb⟩
  have K := (((At.nil w).add [.int .u64 t, .int .u64 i, .int .u64 p, .int .u64 a, .int .u64 l, .string x, .string y, .bool f] 36).add [.slice (some q2) 0 (c - 41 - 1 - x.size - 1 - y.size), .int .i64 0] 303).on hb
  have KA : At (w1.setCell ⟨w.heap.size + 1, 1, none⟩ (.int .i64 0)) [(w.heap.size, 0, .int .u64 t), (w.heap.size, 1, .int .u64 i), (w.heap.size, 2, .int .u64 p), (w.heap.size, 3, .int .u64 a), (w.heap.size, 4, .int .u64 l), (w.heap.size, 5, .string x), (w.heap.size, 6, .string y), (w.heap.size, 7, .bool f), (w.heap.size + 1, 0, .slice (some q2) 0 (c - 41 - 1 - x.size - 1 - y.size))] :=
    K.setCell _ _ _ (fun z hz => ⟨by
      simp only [List.mem_cons, List.not_mem_nil, or_false] at hz
      rcases hz with rfl | rfl | rfl | rfl | rfl | rfl | rfl | rfl | rfl <;> simp [rowL], by
      simp only [List.mem_cons, List.not_mem_nil, or_false] at hz
      rcases hz with rfl | rfl | rfl | rfl | rfl | rfl | rfl | rfl | rfl <;> simp⟩)
  simp only [At, rowL, World.size_alloc, List.nil_append, List.cons_append, List.forall_mem_cons, List.not_mem_nil, false_implies, implies_true, and_true, Nat.zero_add, Nat.reduceAdd] at K
  have B := bel_on (bel_on (bel_0 _ _) (bel_0 _ _)) hb
  have hsz := B.size
  have hsz2 := hb.size
  simp only [World.size_alloc] at hsz2
  have B2 : Below w.heap.size w (w1.setCell ⟨w.heap.size + 1, 1, none⟩ (.int .i64 0)) := B.setCell (by simp) _
  have hsz3 : (w1.setCell ⟨w.heap.size + 1, 1, none⟩ (.int .i64 0)).heap.size = w1.heap.size := by simp [World.setCell]
  clear hb RT T6 T7 N0 N1 N2 N3 N4 S5
  generalize c - 41 - 1 - x.size - 1 - y.size = cc at *
  go_wp2_with fail
  generalize w1.setCell ⟨w.heap.size + 1, 1, none⟩ (.int .i64 0) = w2 at *
  rw [← hsz3] at hsz2
  clear K B hsz hsz3 w1
  replace KA : At w2.drew _ := KA
  replace B2 := B2.drew
  have hsz4 : w2.drew.heap.size = w2.heap.size := rfl
  have K2 := KA
  simp only [At, List.forall_mem_cons, List.not_mem_nil, false_implies, implies_true, and_true] at K2
  go_region_with (go_at_call 140; refine (clone140 _ _ _).mono ?_; rintro e w' ⟨⟨b, n, rfl⟩, hb⟩; have K3 := KA.on hb; simp only [At, List.forall_mem_cons, List.not_mem_nil, false_implies, implies_true, and_true] at K3; have B3 := B2.trans (hb.mono (by omega)); have hs4 := hb.size; clear KA)
  all_goals
    go_wp2_with fail
    refine bodyPost_ret (by simp [results, Tryz.results100, go_sem, K3]; try rfl) rfl ?_
    exact ⟨⟨_, _, rfl⟩, by clear K3 K2; go_grown⟩
end Go.Proofs.YtkmocipdekogkaaGreatDoor
end
