/- Bytes that are parted anywhere have one sum: at once, part behind part, and by their sums, and the chapter's example holds: the law CrcParts answers true at every slice of bytes and every place, with no condition beside the row's own. -/
import Derived.Test.YtpfmcobphaajlaaRows
import Derived.Test.YtpfmcobphaajlaaWalk2
import Derived.Deep.RegionHeld3
import Derived.Outline
import Derived.WalkKit
import Derived.ProofKit
import Derived.OpenShut
import Derived.ShutString
import Derived.ChangeOld
import Derived.Below
namespace Go.Proofs.Ytpfmcobphaajlaa.crcParts
open Go.ChangeShapes Go.WideShapes Go.ChangeAt Go.RowKit
open Go.ChangeMaps (open_string shut_string)
set_option linter.unusedVariables false

theorem own : ownKnob Try.prog.godebug = none := by kernel_rfl
theorem laidOut : laidOutB Try.prog = true := by kernel_rfl

/-- WHAT THE WALK IS TOLD OF A SLICE OF INTEGERS THAT CAME IN: it is nil; or it leads to a row of 'cap' cells, the numbers 'zs' (the first 'len' are its elements, the rest its spare room), each fitting its kind. -/
def IsRow (k : IntKind) (w : World) (a : Option Addr) (len cap : Nat) (zs : List Int) : Prop :=
  (a = none ∧ len = 0 ∧ cap = 0 ∧ zs = []) ∨
  ∃ x, a = some x ∧ len ≤ cap ∧ cap ≤ maxLen ∧ zs.length = cap ∧ (∀ i, i < zs.length → w.cell? (x.add i) = some (.int k (zs.getD i 0))) ∧ ∀ n ∈ zs, (Lit.int k n).wf = true

def Kq (w : World) (a : Option Addr) (xs : List Int) (W : World) : Prop := Rd W a xs ∧ Below w.heap.size w W
theorem Kq.below {w W W' : World} {a : Option Addr} {xs : List Int} (h : Kq w a xs W) (hb : Below W.heap.size W W') : Kq w a xs W' :=
  ⟨rd_below h.1 hb (Nat.le_refl _), h.2.trans (hb.mono h.2.size)⟩
theorem Kq.drew {w W : World} {a : Option Addr} {xs : List Int} (h : Kq w a xs W) : Kq w a xs W.drew := ⟨h.1, h.2.drew⟩
theorem rd_take {W : World} {a : Option Addr} {xs : List Int} (h : Rd W a xs) (p : Nat) : Rd W a (xs.take p) := by
  rcases h with rfl | ⟨b, off, rfl, hc⟩
  · exact .inl (by simp)
  · refine .inr ⟨b, off, rfl, fun i hi => ?_⟩
    have hi' : i < p ∧ i < xs.length := by rw [List.length_take] at hi; omega
    rw [hc i hi'.2, List.getD_eq_getElem?_getD, List.getD_eq_getElem?_getD, List.getElem?_take, if_pos hi'.1]
theorem rd_drop {W : World} {ad : Addr} {xs : List Int} (h : Rd W (some ad) xs) (p : Nat) : Rd W (some (ad.add p)) (xs.drop p) := by
  rcases h with rfl | ⟨b, off, he, hc⟩
  · exact .inl (by simp)
  · obtain rfl := Option.some.inj he
    rw [Addr.add_mid]
    refine .inr ⟨b, off + p, rfl, fun i hi => ?_⟩
    have hi' : p + i < xs.length := by rw [List.length_drop] at hi; omega
    rw [show off + p + i = off + (p + i) by omega, hc (p + i) hi', List.getD_eq_getElem?_getD, List.getD_eq_getElem?_getD, List.getElem?_drop]
theorem more_len (s : BitVec 32) (a : Option Addr) (xs : List Int) (n cap : Nat) (w : World) (hn : xs.length = n) (hr : Rd w a xs) (hl : n ≤ 9223372036854775807) (hb : ∀ x ∈ xs, 0 ≤ x ∧ x ≤ 255) :
    Calls Try.prog 13 #[.int .u32 (s.toNat : Int), .slice a n cap] w fun e w' => e = .returned (.int .u32 ((more s xs).toNat : Int)) ∧ w = w' := by
  subst hn
  exact more_any s a xs cap w hr hl hb

theorem wrap_zero : IntKind.i64.wrap 0 = 0 := by decide
theorem empty_sum (a : Option Addr) (w : World) : Calls Try.prog 10 #[.slice a 0 0] w fun e w' => e = .returned (.int .u32 0) ∧ w = w' := by
  have := sum_len a [] 0 0 w rfl (.inl rfl) (by decide) (by decide)
  rwa [sum_empty] at this

/-! ### STEP 1: THE WALK: the Go text returns true, AND WRITES NOTHING THAT WAS THERE: 'Below w.heap.size w w'' (Derived/Below.lean: '.refl', '.alloc', '.drew', '.setCell' at a new block, '.trans'). Open each 'IsRow' by 'rcases' AHEAD of 'go_enter'; part every test ahead of the walk. -/
set_option maxHeartbeats 1000000 in
theorem walk (a0 : Option Addr) (len0 cap0 : Nat) (z0 : List Int) (a1 : Int) (w : World) (w0 : IsRow .u8 w a0 len0 cap0 z0) (w1 : (Lit.int .i64 a1).wf = true) :
    Calls Try.prog 9 #[.slice a0 len0 cap0, .int .i64 a1] w fun e w' => e = .returned (.bool true) ∧ Below w.heap.size w w' := by
  obtain ⟨xs, rfl, hr, hb, hl⟩ := rd_of w a0 len0 cap0 z0 w0
  have hcap : a0 ≠ none → xs.length ≤ cap0 := by
    intro hn
    rcases w0 with ⟨rfl, _⟩ | ⟨x, rfl, h, _⟩
    · exact absurd rfl hn
    · exact h
  have hnil : a0 = none → cap0 = 0 := by
    rintro rfl
    rcases w0 with ⟨_, _, h, _⟩ | ⟨x, h, _⟩
    · exact h
    · cases h
  have hcm : cap0 ≤ maxLen := by
    rcases w0 with ⟨_, _, rfl, _⟩ | ⟨x, _, _, h, _⟩
    · exact Nat.zero_le _
    · exact h
  clear w0
  unfold maxLen at hcm
  have gw : (-9223372036854775808 : Int) ≤ a1 ∧ a1 ≤ 9223372036854775807 := by
    simp [Lit.wf, IntKind.min, IntKind.max, IntKind.signed, IntKind.bits] at w1
    omega
  clear w1
  by_cases h1 : 10000 < xs.length
  · have d1 : decide ((10000 : Int) < (xs.length : Int)) = true := by simp; omega
    go_enter Try.func9, Try.ntmps9
    go_wp2_with fail
    refine (alive_any w).mono ?_
    rintro e w' ⟨rfl, hbl⟩
    go_wp2_with fail
    go_ret
    exact ⟨rfl, hbl⟩
  have d1 : decide ((10000 : Int) < (xs.length : Int)) = false := by simp; omega
  by_cases h2 : a1 < 0
  · have d2 : decide (a1 < (0 : Int)) = true := by simp; omega
    go_enter Try.func9, Try.ntmps9
    go_wp2_with fail
    refine (alive_any w).mono ?_
    rintro e w' ⟨rfl, hbl⟩
    go_wp2_with fail
    go_ret
    exact ⟨rfl, hbl⟩
  have d2 : decide (a1 < (0 : Int)) = false := by simp; omega
  by_cases h3 : (xs.length : Int) < a1
  · have d3 : decide ((xs.length : Int) < a1) = true := by simp; omega
    go_enter Try.func9, Try.ntmps9
    go_wp2_with fail
    refine (alive_any w).mono ?_
    rintro e w' ⟨rfl, hbl⟩
    go_wp2_with fail
    go_ret
    exact ⟨rfl, hbl⟩
  have d3 : decide ((xs.length : Int) < a1) = false := by simp; omega
  obtain ⟨p, rfl⟩ := Int.eq_ofNat_of_zero_le (show 0 ≤ a1 by omega)
  have hp : p ≤ xs.length := by omega
  clear gw h2 h3
  rcases a0 with _ | ad
  · have hx0 : xs = [] := by
      rcases hr with h | ⟨b, off, h, _⟩
      · exact h
      · cases h
    subst hx0
    obtain rfl := hnil rfl
    obtain rfl : p = 0 := by simpa using hp
    have hS := fun W => empty_sum none W
    have hM : ∀ W, Calls Try.prog 13 #[.int .u32 0, .slice none 0 0] W fun e w' => e = .returned (.int .u32 0) ∧ W = w' := fun W => by
      have := more_len 0#32 none [] 0 0 W rfl (.inl rfl) (by decide) (by decide)
      rwa [sum_empty] at this
    have hJ : ∀ W, Calls Try.prog 15 #[.int .u32 0, .int .u32 0, .int .i64 (IntKind.i64.wrap 0)] W fun e w' => e = .returned (.tuple #[.int .u32 0, .int .i64 0]) ∧ Below W.heap.size W w' := fun W => by
      have := join_any 0#32 0#32 0 (by decide) W
      simpa [sts, wrap_zero] using this
    have K0 : Kq w none [] w.drew := ⟨.inl rfl, (Below.refl _ _).drew⟩
    clear hcap hnil hb hr hp h1 hl hcm d1 d2 d3
    show Calls Try.prog 9 #[.slice none 0 0, .int .i64 0] w _
    go_enter Try.func9, Try.ntmps9
    go_wp2_with fail
    refine (hS _).mono ?_
    rintro e w' ⟨rfl, rfl⟩
    go_wp2_with fail
    go_region_held3 (fun W => Kq w none [] W) (first | assumption | exact Kq.below (by assumption) (by assumption)) (first | (with_reducible refine (hS _).mono ?_; rintro e w' ⟨rfl, rfl⟩) | (with_reducible refine (hJ _).mono ?_; rintro e w' ⟨rfl, hbj⟩))
    go_wp2_with fail
    go_region_held3 (fun W => Kq w none [] W) (first | assumption | exact Kq.below (by assumption) (by assumption) | exact Kq.drew (by assumption)) (first | (with_reducible refine (hS _).mono ?_; rintro e w' ⟨rfl, rfl⟩) | (with_reducible refine (hM _).mono ?_; rintro e w' ⟨rfl, rfl⟩) | (with_reducible refine (alive_any _).mono ?_; rintro e w' ⟨rfl, hba⟩))
    go_wp2_with fail
    go_ret
    exact ⟨rfl, (show Kq _ _ _ _ by assumption).2⟩
  · have hcap' := hcap (by simp)
    clear hcap hnil
    by_cases hpc : p = cap0
    · obtain rfl : p = xs.length := by omega
      subst hpc
      have hS : ∀ W, Kq w (some ad) xs W → Calls Try.prog 10 #[.slice (some ad) xs.length xs.length] W fun e w' => e = .returned (.int .u32 ((more 0#32 xs).toNat : Int)) ∧ W = w' :=
        fun W hW => sum_any _ xs _ W hW.1 hl hb
      have hD := fun W => empty_sum (some ad) W
      have hM : ∀ W, Calls Try.prog 13 #[.int .u32 ((more 0#32 xs).toNat : Int), .slice (some ad) 0 0] W fun e w' => e = .returned (.int .u32 ((more 0#32 xs).toNat : Int)) ∧ W = w' := fun W => by
        have := more_len (more 0#32 xs) (some ad) [] 0 0 W rfl (.inl rfl) (by decide) (by decide)
        rwa [more_append, List.append_nil] at this
      have hJ : ∀ W, Calls Try.prog 15 #[.int .u32 ((more 0#32 xs).toNat : Int), .int .u32 0, .int .i64 (IntKind.i64.wrap 0)] W fun e w' => e = .returned (.tuple #[.int .u32 ((more 0#32 xs).toNat : Int), .int .i64 0]) ∧ Below W.heap.size W w' := fun W => by
        have := join_any (more 0#32 xs) 0#32 0 (by decide) W
        simpa [sts, wrap_zero] using this
      have K0 : Kq w (some ad) xs w.drew := ⟨hr, (Below.refl _ _).drew⟩
      have K00 : Kq w (some ad) xs w := ⟨hr, Below.refl _ _⟩
      have heq : (((more 0#32 xs).toNat : Int) == ((more 0#32 xs).toNat : Int)) = true := by simp
      generalize ((more 0#32 xs).toNat : Int) = sv at hS hM hJ heq
      clear hr hb
      go_enter Try.func9, Try.ntmps9
      go_wp2_with fail
      refine (hS _ K00).mono ?_
      rintro e w' ⟨rfl, rfl⟩
      clear K00
      go_wp2_with fail
      go_region_held3 (fun W => Kq w (some ad) xs W) (first | assumption | exact Kq.below (by assumption) (by assumption)) (first | (with_reducible refine (hS _ (by assumption)).mono ?_; rintro e w' ⟨rfl, rfl⟩) | (with_reducible refine (hD _).mono ?_; rintro e w' ⟨rfl, rfl⟩) | (with_reducible refine (hJ _).mono ?_; rintro e w' ⟨rfl, hbj⟩))
      go_wp2_with fail
      go_region_held3 (fun W => Kq w (some ad) xs W) (first | assumption | exact Kq.below (by assumption) (by assumption) | exact Kq.drew (by assumption)) (first | (with_reducible refine (hS _ (by assumption)).mono ?_; rintro e w' ⟨rfl, rfl⟩) | (with_reducible refine (hM _).mono ?_; rintro e w' ⟨rfl, rfl⟩) | (with_reducible refine (alive_any _).mono ?_; rintro e w' ⟨rfl, hba⟩))
      go_wp2_with fail
      go_ret
      exact ⟨rfl, (show Kq _ _ _ _ by assumption).2⟩
    · have hpc' : p < cap0 := by omega
      have q0 : (0 : Int) ≤ (p : Int) := by omega
      have q1 : (p : Int) ≤ (cap0 : Int) := by omega
      have q2 : (p : Int) ≤ (xs.length : Int) := by omega
      have q3 : (xs.length : Int) ≤ (cap0 : Int) := by omega
      have hT : ∀ W, Kq w (some ad) xs W → Calls Try.prog 10 #[.slice (some ad) p cap0] W fun e w' => e = .returned (.int .u32 ((more 0#32 (xs.take p)).toNat : Int)) ∧ W = w' :=
        fun W hW => sum_len _ (xs.take p) p cap0 W (by rw [List.length_take]; omega) (rd_take hW.1 p) (by omega) (fun x hx => hb x (List.mem_of_mem_take hx))
      have hD : ∀ W, Kq w (some ad) xs W → Calls Try.prog 10 #[.slice (some (ad.add p)) (xs.length - p) (cap0 - p)] W fun e w' => e = .returned (.int .u32 ((more 0#32 (xs.drop p)).toNat : Int)) ∧ W = w' :=
        fun W hW => sum_len _ (xs.drop p) (xs.length - p) _ W (by rw [List.length_drop]) (rd_drop hW.1 p) (by omega) (fun x hx => hb x (List.mem_of_mem_drop hx))
      have hM : ∀ W, Kq w (some ad) xs W → Calls Try.prog 13 #[.int .u32 ((more 0#32 (xs.take p)).toNat : Int), .slice (some (ad.add p)) (xs.length - p) (cap0 - p)] W fun e w' => e = .returned (.int .u32 ((more 0#32 xs).toNat : Int)) ∧ W = w' :=
        fun W hW => by
          have := more_len (more 0#32 (xs.take p)) _ (xs.drop p) (xs.length - p) (cap0 - p) W (by rw [List.length_drop]) (rd_drop hW.1 p) (by omega) (fun x hx => hb x (List.mem_of_mem_drop hx))
          rwa [more_append, List.take_append_drop] at this
      have hJ : ∀ W, Kq w (some ad) xs W → Calls Try.prog 15 #[.int .u32 ((more 0#32 (xs.take p)).toNat : Int), .int .u32 ((more 0#32 (xs.drop p)).toNat : Int), .int .i64 ((xs.length : Int) - (p : Int))] W fun e w' => e = .returned (.tuple #[.int .u32 ((more 0#32 xs).toNat : Int), .int .i64 0]) ∧ Below W.heap.size W w' :=
        fun W hW => by
          have := join_any (more 0#32 (xs.take p)) (more 0#32 (xs.drop p)) (xs.length - p) (by omega) W
          rw [show xs.length - p = (xs.drop p).length by rw [List.length_drop], ← join_law _ _, List.take_append_drop, List.length_drop] at this
          rwa [show (xs.length : Int) - (p : Int) = ((xs.length - p : Nat) : Int) by omega]
      have K0 : Kq w (some ad) xs w.drew := ⟨hr, (Below.refl _ _).drew⟩
      have ew : IntKind.i64.wrap ((xs.length : Int) - (p : Int)) = (xs.length : Int) - (p : Int) := by rw [IntKind.wrap_i64]; omega
      have hS := sum_any _ xs cap0 w hr hl hb
      have heq : (((more 0#32 xs).toNat : Int) == ((more 0#32 xs).toNat : Int)) = true := by simp
      generalize ((more 0#32 xs).toNat : Int) = sv at hS hM hJ heq
      generalize ((more 0#32 (xs.take p)).toNat : Int) = s1 at hT hM hJ
      generalize ((more 0#32 (xs.drop p)).toNat : Int) = s2 at hD hJ
      clear hr hb
      go_enter Try.func9, Try.ntmps9
      go_wp2_with fail
      refine hS.mono ?_
      rintro e w' ⟨rfl, rfl⟩
      clear hS
      go_wp2_with fail
      go_region_held3 (fun W => Kq w (some ad) xs W) (first | assumption | exact Kq.below (by assumption) (by assumption)) (first | (with_reducible refine (hT _ (by assumption)).mono ?_; rintro e w' ⟨rfl, rfl⟩) | (with_reducible refine (hD _ (by assumption)).mono ?_; rintro e w' ⟨rfl, rfl⟩) | (with_reducible refine (hJ _ (by assumption)).mono ?_; rintro e w' ⟨rfl, hbj⟩))
      go_wp2_with fail
      go_region_held3 (fun W => Kq w (some ad) xs W) (first | assumption | exact Kq.below (by assumption) (by assumption) | exact Kq.drew (by assumption)) (first | (with_reducible refine (hT _ (by assumption)).mono ?_; rintro e w' ⟨rfl, rfl⟩) | (with_reducible refine (hM _ (by assumption)).mono ?_; rintro e w' ⟨rfl, rfl⟩) | (with_reducible refine (alive_any _).mono ?_; rintro e w' ⟨rfl, hba⟩))
      go_wp2_with fail
      go_ret
      exact ⟨rfl, (show Kq _ _ _ _ by assumption).2⟩

/-! ### THE ROW's STEP: WRITTEN OUT: LEAVE IT -/
set_option maxRecDepth 100000 in
theorem lifted (os : Os) (started : os.Started) (H : Type) (enc : TypeId × Value → H) :
    ReturnsInHanded {} Try.checked os 9 .any (Rows.crcPartsSpec.pre6 enc Try.prog Try.f9 Rows.crcPartsRow.domain false) (Rows.crcPartsSpec.post enc Try.prog Try.f9 false true false false) := by
  refine returnsInHanded_of_change (C := Try.checked) own started (by kernel_rfl) Try.func9
    (ChangeSpec.witness6 (enc := enc) (C := Try.checked) false ⟨#[], #[.slice none 0 0, .int .i64 0], []⟩ 8 (by kernel_rfl) (by kernel_rfl) (by kernel_rfl) (by kernel_rfl)) ?_
  intro W base args ds gs before hval0 hW hcnd _
  have hval : ∀ (j : Nat) t v, Try.f9.params[j]? = some t → args[j]? = some v → Value.okWide Try.prog W .any base t v := hval0
  have hW' := hW
  obtain ⟨p, q, hA0, hV, rfl, hfz, hnd⟩ := hW
  have hA : DataW.TrodAll enc Try.prog W 0 (fun _ => true) true Try.f9.params.toList args.toList ds p := hA0
  rw [Try.params9] at hA hval
  obtain ⟨v0, vs0, d0, ds0, p0, q0, hargs, rfl, rfl, h0, r0⟩ := trodAll_cons hA
  obtain ⟨v1, vs1, d1, ds1, p1, q1, rfl, rfl, rfl, h1, r1⟩ := trodAll_cons r0
  obtain ⟨rfl, rfl, rfl⟩ := trodAll_nil r1
  obtain rfl : args = #[v0, v1] := by cases args; simp_all
  obtain ⟨rfl, rfl⟩ := trodVars_none hV
  obtain ⟨a0, len0, cap0, rfl⟩ := okWide_slice Try.underlying22 (hval 0 22 v0 rfl rfl)
  have k0 := h0
  have lt0 : ∀ x ∈ p0, x.block < W.heap.size := by obtain ⟨m, hm⟩ := k0; exact DataW.trod_lt m _ _ _ hm
  obtain ⟨z0, w0⟩ : ∃ zs, IsRow .u8 W a0 len0 cap0 zs := by
    obtain ⟨fuel, hf⟩ := h0
    rcases open_ints Try.underlying22 Try.underlying5 (by kernel_rfl) hf with ⟨hcs, _⟩ | ⟨x, l, c, zs, hcs, _, hl, hm, hz, _, hcell, hwz⟩
    · simp [Value.cells] at hcs
      obtain ⟨rfl, rfl, rfl⟩ := hcs
      exact ⟨[], .inl ⟨rfl, rfl, rfl, rfl⟩⟩
    · simp [Value.cells] at hcs
      obtain ⟨rfl, rfl, rfl⟩ := hcs
      exact ⟨zs, .inr ⟨_, rfl, hl, hm, by simpa using hz, hcell, hwz⟩⟩
  obtain ⟨a1, rfl, rfl, rfl, w1⟩ := open_int Try.underlying3 (hval 1 3 v1 rfl rfl) h1
  clear hA0 hval0
  refine (walk a0 len0 cap0 z0 a1 W w0 w1).mono fun e W' ⟨he, bel⟩ => ?_
  subst he
  exact ⟨_, rfl, _, _, _, [], _, [], hW', trodAll_mk1 (shut_bool Try.underlying4 _), (trodAll_cons_mk (Below.trod laidOut (by kernel_rfl) (of_decide_eq_true (by kernel_rfl)) k0 bel lt0) (trodAll_cons_mk (shut_int Try.underlying3 w1) trodAll_mk0)), rfl, bel.frame _, fun h => by cases h⟩

theorem over : Rows.crcPartsRow.holds Try.pinned (OpenSpec.ofChange Rows.crcPartsSpec) :=
  OpenClaim.holds_of_wide 9 Try.f9 rfl rfl rfl rfl rfl rfl rfl ⟨rfl, rfl, rfl, rfl, rfl⟩ rfl rfl rfl rfl rfl (by kernel_rfl) Try.func9 (by kernel_rfl)
    (of_decide_eq_true (by kernel_rfl)) (by unfold Func.isWrapper; first | (rw [if_pos (by decide +kernel)]; kernel_rfl) | (rw [if_neg (by decide +kernel)]; exact ⟨rfl, rfl⟩))
    (fun os started H enc _ => lifted os started H enc)

/-- ████ THE STATEMENT ████ -/
theorem proved : Rows.CrcPartsSaid := over
#print axioms proved
end Go.Proofs.Ytpfmcobphaajlaa.crcParts
