/- What three texts of one length have together has the sum that their sums have, and the chapter's example holds: the law CrcLinear answers true at every two slices of bytes, with no condition beside the row's own. -/
import Derived.Test.YtpfmcobphaajlaaRows
import Derived.Test.YtpfmcobphaajlaaWalk1
import Derived.OwnWalk
import Derived.Laws.OwnMore
import Derived.StillTailTactics
import Derived.Deep.RegionHeld3
import Derived.Outline
import Derived.WalkKit
import Derived.ProofKit
import Derived.OpenShut
import Derived.ShutString
import Derived.ChangeOld
import Derived.Below
namespace Go.Proofs.Ytpfmcobphaajlaa.crcLinear
open Go.ChangeShapes Go.WideShapes Go.ChangeAt Go.RowKit
open Go.ChangeMaps (open_string shut_string)
set_option linter.unusedVariables false

theorem own : ownKnob Try.prog.godebug = none := by kernel_rfl
theorem laidOut : laidOutB Try.prog = true := by kernel_rfl

/-- WHAT THE WALK IS TOLD OF A SLICE OF INTEGERS THAT CAME IN: it is nil; or it leads to a row of 'cap' cells, the numbers 'zs' (the first 'len' are its elements, the rest its spare room), each fitting its kind. -/
def IsRow (k : IntKind) (w : World) (a : Option Addr) (len cap : Nat) (zs : List Int) : Prop :=
  (a = none ∧ len = 0 ∧ cap = 0 ∧ zs = []) ∨
  ∃ x, a = some x ∧ len ≤ cap ∧ cap ≤ maxLen ∧ zs.length = cap ∧ (∀ i, i < zs.length → w.cell? (x.add i) = some (.int k (zs.getD i 0))) ∧ ∀ n ∈ zs, (Lit.int k n).wf = true

theorem info5 : (Try.prog.info? 5).map (fun i => (i.zero, i.size, i.bytes)) = some (some (.int .u8 0), 1, 1) := by kernel_rfl

theorem make_bytes (n : Nat) (h : n ≤ 2000) (w : World) : (Instr.makeSlice 22 (.int .i64 (n : Int)) (.int .i64 (n : Int))).run Try.prog w = .ok (.slice (some ⟨w.heap.size, 0, none⟩) n n) (w.alloc (.cells (madeCells #[.int .u8 0] n) 5)) := by
  obtain ⟨i0, hi, hz0, hz1, hz2⟩ := info_parts info5
  have := run_make (P := Try.prog) w 22 5 i0 (.int .u8 0) Try.underlying22 hi hz0 .i64 .i64 n n (by omega) (by omega) (by rw [hz2]; omega) (by omega)
  simpa [hz1, Value.cells] using this

theorem rd_alloc {W : World} {a : Option Addr} {xs : List Int} (h : Rd W a xs) (o : Obj) : Rd (W.alloc o) a xs := by
  rcases h with rfl | ⟨b, off, rfl, hc⟩
  · exact .inl rfl
  · exact .inr ⟨b, off, rfl, fun i hi => Lib.cell?_alloc_marked o (hc i hi)⟩
theorem rd_below {B : Nat} {w W : World} {a : Option Addr} {xs : List Int} (h : Rd w a xs) (hb : Below B w W) (hB : w.heap.size ≤ B) : Rd W a xs := by
  rcases h with rfl | ⟨b, off, rfl, hc⟩
  · exact .inl rfl
  · exact .inr ⟨b, off, rfl, fun i hi => (hb.cell (p := ⟨b, off + i, none⟩) (Nat.lt_of_lt_of_le (World.block_lt_of_cell? w _ (hc i hi)) hB)).trans (hc i hi)⟩
/-- What is kept while the sums are asked for. -/
def Kp (w : World) (a0 a1 a2 : Option Addr) (xs ys zs : List Int) (W : World) : Prop := Rd W a0 xs ∧ Rd W a1 ys ∧ Rd W a2 zs ∧ Below w.heap.size w W
theorem Kp.alloc {w W : World} {a0 a1 a2 : Option Addr} {xs ys zs : List Int} (h : Kp w a0 a1 a2 xs ys zs W) (o : Obj) : Kp w a0 a1 a2 xs ys zs (W.alloc o) :=
  ⟨rd_alloc h.1 o, rd_alloc h.2.1 o, rd_alloc h.2.2.1 o, h.2.2.2.alloc h.2.2.2.size o⟩

theorem Kp.below {w W W' : World} {a0 a1 a2 : Option Addr} {xs ys zs : List Int} (h : Kp w a0 a1 a2 xs ys zs W) (hb : Below W.heap.size W W') : Kp w a0 a1 a2 xs ys zs W' :=
  ⟨rd_below h.1 hb (Nat.le_refl _), rd_below h.2.1 hb (Nat.le_refl _), rd_below h.2.2.1 hb (Nat.le_refl _), h.2.2.2.trans (hb.mono h.2.2.2.size)⟩
theorem rd_own {W : World} {B n : Nat} {zs : List Int} (h : W.ownsRow B 5 1 (.slice (some ⟨B, 0, none⟩) n n) n (zs.map (Value.int .u8))) (hz : zs.length = n) : Rd W (some ⟨B, 0, none⟩) zs := by
  refine .inr ⟨_, _, rfl, fun i hi => ?_⟩
  rw [Nat.zero_add, h.cellAt i (by omega), List.getElem?_map, List.getElem?_eq_getElem hi, List.getD_eq_getElem?_getD, List.getElem?_eq_getElem hi]
  rfl
theorem rd_made (W : World) (n : Nat) : Rd (W.alloc (.cells (madeCells #[.int .u8 0] n) 5)) (some ⟨W.heap.size, 0, none⟩) (List.replicate n 0) := by
  refine .inr ⟨_, _, rfl, fun i hi => ?_⟩
  rw [List.length_replicate] at hi
  rw [Nat.zero_add, World.cell?_alloc_mark, ← Array.getElem?_toList, toList_madeCells_one]
  simp [hi]
theorem rd_made_drew (W : World) (n : Nat) : Rd (W.alloc (.cells (madeCells #[.int .u8 0] n) 5)).drew (some ⟨W.heap.size, 0, none⟩) (List.replicate n 0) := rd_made W n
theorem sum_len (a : Option Addr) (xs : List Int) (n cap : Nat) (w : World) (hn : xs.length = n) (hr : Rd w a xs) (hl : n ≤ 9223372036854775807) (hb : ∀ x ∈ xs, 0 ≤ x ∧ x ≤ 255) :
    Calls Try.prog 10 #[.slice a n cap] w fun e w' => e = .returned (.int .u32 ((more 0#32 xs).toNat : Int)) ∧ w = w' := by
  subst hn
  exact sum_any a xs cap w hr hl hb
theorem mix_byte (xs ys : List Int) (k : Nat) (hx : ∀ x ∈ xs, 0 ≤ x ∧ x ≤ 255) (hy : ∀ y ∈ ys, 0 ≤ y ∧ y ≤ 255) : ∀ z ∈ mix xs ys k, 0 ≤ z ∧ z ≤ 255 := by
  have g : ∀ (l : List Int), (∀ x ∈ l, 0 ≤ x ∧ x ≤ 255) → ∀ i, 0 ≤ l.getD i 0 ∧ l.getD i 0 ≤ 255 := fun l hl i => by
    rw [List.getD_eq_getElem?_getD]
    by_cases hi : i < l.length
    · rw [List.getElem?_eq_getElem hi]; exact hl _ (List.getElem_mem hi)
    · rw [List.getElem?_eq_none (by omega)]; decide
  intro z hz
  simp only [mix, List.mem_map, List.mem_range] at hz
  obtain ⟨i, _, rfl⟩ := hz
  split
  · exact (byte_xor _ _ (g xs hx i) (g ys hy i)).2
  · decide

/-! ### STEP 1: THE WALK: the Go text returns true, AND WRITES NOTHING THAT WAS THERE: 'Below w.heap.size w w'' (Derived/Below.lean: '.refl', '.alloc', '.drew', '.setCell' at a new block, '.trans'). Open each 'IsRow' by 'rcases' AHEAD of 'go_enter'; part every test ahead of the walk. -/
set_option maxHeartbeats 1000000 in
theorem walk (a0 : Option Addr) (len0 cap0 : Nat) (z0 : List Int) (a1 : Option Addr) (len1 cap1 : Nat) (z1 : List Int) (w : World) (w0 : IsRow .u8 w a0 len0 cap0 z0) (w1 : IsRow .u8 w a1 len1 cap1 z1) :
    Calls Try.prog 6 #[.slice a0 len0 cap0, .slice a1 len1 cap1] w fun e w' => e = .returned (.bool true) ∧ Below w.heap.size w w' := by
  obtain ⟨xs, rfl, hr, hb, hl⟩ := rd_of w a0 len0 cap0 z0 w0
  obtain ⟨ys, rfl, hs, hc, hm⟩ := rd_of w a1 len1 cap1 z1 w1
  clear w0 w1
  by_cases h : xs.length = ys.length
  · have h1 : ((xs.length : Int) != (ys.length : Int)) = false := by simp; omega
    have H := hidden h
    clear h
    by_cases h2 : 2000 < xs.length
    · go_enter Try.func6, Try.ntmps6
      go_wp2_with fail
      refine (alive_any w).mono ?_
      rintro e w' ⟨rfl, hbel⟩
      go_wp2_with fail
      go_ret
      exact ⟨rfl, hbel⟩
    · have hd : decide ((2000 : Int) < (xs.length : Int)) = false := by simp; omega
      have hmk := make_bytes xs.length (by omega)
      go_enter Try.func6, Try.ntmps6
      go_wp2_with fail
      go_wp2_with fail
      go_loopw [6] (fun i wr => ∃ k : Nat, k ≤ xs.length ∧ i = .int .i64 k ∧ wr.ownsRow w.heap.size 5 1 (.slice (some ⟨w.heap.size, 0, none⟩) xs.length xs.length) xs.length ((mix xs ys k).map (Value.int .u8)) ∧ Below w.heap.size w wr) (fun i _ => xs.length - (intOf i).toNat)
      case atStart =>
        have st := World.ownsRow_lit (base := w.heap.size) (e := 5) (size := 1) w (madeCells #[.int .u8 0] xs.length) xs.length (Nat.le_refl _) (by unfold maxLen; omega) (by rw [size_madeCells]; omega)
        rw [toList_madeCells_one] at st
        exact ⟨0, Nat.zero_le _, rfl, by rw [mix_zero, List.map_replicate]; exact st, (Below.refl _ _).alloc (Nat.le_refl _) _⟩
      case round =>
        obtain ⟨k, hk, rfl, hown, hbel⟩ := hrel
        by_cases hlt : k < xs.length
        · obtain ⟨b0, off0, rfl, hx⟩ := hr.resolve_left (by intro e; subst e; simp at hlt)
          obtain ⟨b1, off1, rfl, hy⟩ := hs.resolve_left (by intro e; subst e; have := H.out; simp at this; subst this; simp at hlt)
          have cx := hx k hlt
          have hky : k < ys.length := by have := H.out; omega
          have cy := hy k hky
          have cx' := (hbel.cell (p := ⟨b0, off0 + k, none⟩) (World.block_lt_of_cell? w _ cx)).trans cx
          have cy' := (hbel.cell (p := ⟨b1, off1 + k, none⟩) (World.block_lt_of_cell? w _ cy)).trans cy
          have cf := hown.frozenAt k
          have cw := hown.cellAt k (by omega)
          rw [List.getElem?_map, show (mix xs ys k)[k]? = some ((mix xs ys k).getD k 0) by rw [List.getD_eq_getElem?_getD, List.getElem?_eq_getElem (by rw [mix_length]; exact hlt)]; rfl, Option.map_some] at cw
          clear hx hy cx cy
          go_wp2_with fail
          go_still_tail 12, (by kernel_rfl)
          go_wp2_with fail
          have st := hown.stored k (.int .u8 (bits .xor .u8 (xs.getD k 0) (ys.getD k 0)))
          rw [← List.map_set, mix_set] at st
          rw [List.getD_eq_getElem?_getD, List.getD_eq_getElem?_getD, List.getElem?_eq_getElem hlt, List.getElem?_eq_getElem hky] at st
          go_roundw
          case rel => exact ⟨k + 1, by omega, by go_num, st.1.drew, (hbel.setCell (Nat.le_refl _) _).drew⟩
          case measure => simp [intOf]; omega
        · obtain rfl : k = xs.length := by omega
          go_wp2_with fail
          have K0 : Kp w a0 a1 (some ⟨w.heap.size, 0, none⟩) xs ys (mix xs ys xs.length) wr.drew := by
            exact ⟨rd_below hr hbel.drew (Nat.le_refl _), rd_below hs hbel.drew (Nat.le_refl _), rd_own hown.drew (mix_length _ _ _), hbel.drew⟩
          have heq : (bits .xor .u32 (bits .xor .u32 ((more 0#32 xs).toNat : Int) ((more 0#32 ys).toNat : Int)) ((more 0#32 (List.replicate xs.length 0)).toNat : Int) == ((more 0#32 (mix xs ys xs.length)).toNat : Int)) = true := by
            rw [bits_xor_bv, bits_xor_bv, linear xs ys H.out hb hc]; simp
          clear hown hbel hr hs
          go_region_held3 (fun W => Kp w a0 a1 (some ⟨w.heap.size, 0, none⟩) xs ys (mix xs ys xs.length) W)
            (first | assumption | exact Kp.alloc (by assumption) _ | exact Kp.below (by assumption) (by assumption))
            (first
              | (go_at_call_of 10 a0; refine (sum_any a0 xs cap0 _ ?_ hl hb).mono ?_; (exact (show Kp _ _ _ _ _ _ _ _ by assumption).1); rintro e w' ⟨rfl, rfl⟩)
              | (go_at_call_of 10 a1; refine (sum_any a1 ys cap1 _ ?_ hm hc).mono ?_; (exact (show Kp _ _ _ _ _ _ _ _ by assumption).2.1); rintro e w' ⟨rfl, rfl⟩)
              | (go_at_call_of 10 (some (⟨w.heap.size, 0, none⟩ : Addr)); refine (sum_len _ (mix xs ys xs.length) xs.length _ _ (mix_length _ _ _) ?_ hl (mix_byte _ _ _ hb hc)).mono ?_; (exact (show Kp _ _ _ _ _ _ _ _ by assumption).2.2.1); rintro e w' ⟨rfl, rfl⟩)
              | (go_at_call 10; refine (sum_len _ (List.replicate xs.length 0) xs.length _ _ (List.length_replicate ..) (rd_made_drew _ _) hl (by simp)).mono ?_; rintro e w' ⟨rfl, rfl⟩)
              | (go_at_call 12; refine (alive_any _).mono ?_; rintro e w' ⟨rfl, hb2⟩))
          all_goals
            go_wp2_with fail
            go_ret
            exact ⟨rfl, (show Kp _ _ _ _ _ _ _ _ by assumption).2.2.2⟩
  · have h1 : ((xs.length : Int) != (ys.length : Int)) = true := by simp; omega
    clear h
    go_enter Try.func6, Try.ntmps6
    go_wp2_with fail
    refine (alive_any w).mono ?_
    rintro e w' ⟨rfl, hbel⟩
    go_wp2_with fail
    go_ret
    exact ⟨rfl, hbel⟩

/-! ### THE ROW's STEP: WRITTEN OUT: LEAVE IT -/
set_option maxRecDepth 100000 in
theorem lifted (os : Os) (started : os.Started) (H : Type) (enc : TypeId × Value → H) :
    ReturnsInHanded {} Try.checked os 6 .any (Rows.crcLinearSpec.pre6 enc Try.prog Try.f6 Rows.crcLinearRow.domain false) (Rows.crcLinearSpec.post enc Try.prog Try.f6 false true false false) := by
  refine returnsInHanded_of_change (C := Try.checked) own started (by kernel_rfl) Try.func6
    (ChangeSpec.witness6 (enc := enc) (C := Try.checked) false ⟨#[], #[.slice none 0 0, .slice none 0 0], []⟩ 8 (by kernel_rfl) (by kernel_rfl) (by kernel_rfl) (by kernel_rfl)) ?_
  intro W base args ds gs before hval0 hW hcnd _
  have hval : ∀ (j : Nat) t v, Try.f6.params[j]? = some t → args[j]? = some v → Value.okWide Try.prog W .any base t v := hval0
  have hW' := hW
  obtain ⟨p, q, hA0, hV, rfl, hfz, hnd⟩ := hW
  have hA : DataW.TrodAll enc Try.prog W 0 (fun _ => true) true Try.f6.params.toList args.toList ds p := hA0
  rw [Try.params6] at hA hval
  obtain ⟨v0, vs0, d0, ds0, p0, q0, hargs, rfl, rfl, h0, r0⟩ := trodAll_cons hA
  obtain ⟨v1, vs1, d1, ds1, p1, q1, rfl, rfl, rfl, h1, r1⟩ := trodAll_cons r0
  obtain ⟨rfl, rfl, rfl⟩ := trodAll_nil r1
  obtain rfl : args = #[v0, v1] := by cases args; simp_all
  obtain ⟨rfl, rfl⟩ := trodVars_none hV
  obtain ⟨a0, len0, cap0, rfl⟩ := okWide_slice Try.underlying22 (hval 0 22 v0 rfl rfl)
  have k0 := h0
  have lt0 : ∀ x ∈ p0, x.block < W.heap.size := by obtain ⟨m, hm⟩ := k0; exact DataW.trod_lt m _ _ _ hm
  obtain ⟨z0, w0⟩ : ∃ zs, IsRow .u8 W a0 len0 cap0 zs := by
    obtain ⟨fuel, hf⟩ := h0
    rcases open_ints Try.underlying22 Try.underlying5 (by kernel_rfl) hf with ⟨hcs, _⟩ | ⟨x, l, c, zs, hcs, _, hl, hm, hz, _, hcell, hwz⟩
    · simp [Value.cells] at hcs
      obtain ⟨rfl, rfl, rfl⟩ := hcs
      exact ⟨[], .inl ⟨rfl, rfl, rfl, rfl⟩⟩
    · simp [Value.cells] at hcs
      obtain ⟨rfl, rfl, rfl⟩ := hcs
      exact ⟨zs, .inr ⟨_, rfl, hl, hm, by simpa using hz, hcell, hwz⟩⟩
  obtain ⟨a1, len1, cap1, rfl⟩ := okWide_slice Try.underlying22 (hval 1 22 v1 rfl rfl)
  have k1 := h1
  have lt1 : ∀ x ∈ p1, x.block < W.heap.size := by obtain ⟨m, hm⟩ := k1; exact DataW.trod_lt m _ _ _ hm
  obtain ⟨z1, w1⟩ : ∃ zs, IsRow .u8 W a1 len1 cap1 zs := by
    obtain ⟨fuel, hf⟩ := h1
    rcases open_ints Try.underlying22 Try.underlying5 (by kernel_rfl) hf with ⟨hcs, _⟩ | ⟨x, l, c, zs, hcs, _, hl, hm, hz, _, hcell, hwz⟩
    · simp [Value.cells] at hcs
      obtain ⟨rfl, rfl, rfl⟩ := hcs
      exact ⟨[], .inl ⟨rfl, rfl, rfl, rfl⟩⟩
    · simp [Value.cells] at hcs
      obtain ⟨rfl, rfl, rfl⟩ := hcs
      exact ⟨zs, .inr ⟨_, rfl, hl, hm, by simpa using hz, hcell, hwz⟩⟩
  clear hA0 hval0
  refine (walk a0 len0 cap0 z0 a1 len1 cap1 z1 W w0 w1).mono fun e W' ⟨he, bel⟩ => ?_
  subst he
  exact ⟨_, rfl, _, _, _, [], _, [], hW', trodAll_mk1 (shut_bool Try.underlying4 _), (trodAll_cons_mk (Below.trod laidOut (by kernel_rfl) (of_decide_eq_true (by kernel_rfl)) k0 bel lt0) (trodAll_cons_mk (Below.trod laidOut (by kernel_rfl) (of_decide_eq_true (by kernel_rfl)) k1 bel lt1) trodAll_mk0)), rfl, bel.frame _, fun h => by cases h⟩

theorem over : Rows.crcLinearRow.holds Try.pinned (OpenSpec.ofChange Rows.crcLinearSpec) :=
  OpenClaim.holds_of_wide 6 Try.f6 rfl rfl rfl rfl rfl rfl rfl ⟨rfl, rfl, rfl, rfl, rfl⟩ rfl rfl rfl rfl rfl (by kernel_rfl) Try.func6 (by kernel_rfl)
    (of_decide_eq_true (by kernel_rfl)) (by unfold Func.isWrapper; first | (rw [if_pos (by decide +kernel)]; kernel_rfl) | (rw [if_neg (by decide +kernel)]; exact ⟨rfl, rfl⟩))
    (fun os started H enc _ => lifted os started H enc)

/-- ████ THE STATEMENT ████ -/
theorem proved : Rows.CrcLinearSaid := over
#print axioms proved
end Go.Proofs.Ytpfmcobphaajlaa.crcLinear
