/- Whatever the text is, with its own sum behind it, the lowest byte first, it has one and the same sum, and the chapter's example holds: the law CrcRest answers true at every slice of bytes, with no condition beside the row's own. -/
import Derived.Test.YtpfmcobphaajlaaRows
import Derived.Test.YtpfmcobphaajlaaClone
import Derived.Test.YtpfmcobphaajlaaMath2
import Derived.Outline
import Derived.WalkKit
import Derived.ProofKit
import Derived.OpenShut
import Derived.ShutString
import Derived.ChangeOld
import Derived.Below
namespace Go.Proofs.Ytpfmcobphaajlaa.crcRest
open Go.ChangeShapes Go.WideShapes Go.ChangeAt Go.RowKit
open Go.ChangeMaps (open_string shut_string)
set_option linter.unusedVariables false

theorem own : ownKnob Try.prog.godebug = none := by kernel_rfl
theorem laidOut : laidOutB Try.prog = true := by kernel_rfl

/-- WHAT THE WALK IS TOLD OF A SLICE OF INTEGERS THAT CAME IN: it is nil; or it leads to a row of 'cap' cells, the numbers 'zs' (the first 'len' are its elements, the rest its spare room), each fitting its kind. -/
def IsRow (k : IntKind) (w : World) (a : Option Addr) (len cap : Nat) (zs : List Int) : Prop :=
  (a = none ∧ len = 0 ∧ cap = 0 ∧ zs = []) ∨
  ∃ x, a = some x ∧ len ≤ cap ∧ cap ≤ maxLen ∧ zs.length = cap ∧ (∀ i, i < zs.length → w.cell? (x.add i) = some (.int k (zs.getD i 0))) ∧ ∀ n ∈ zs, (Lit.int k n).wf = true

theorem mask (s : BitVec 32) (x : Int) (h0 : 0 ≤ x) (h1 : x < 4294967296) : bits .and .u32 x 255 % 256 = x % 256 := by
  have := bits_mask .u32 32 (by decide) (fun n a b => by rw [IntKind.wrap_u32]; omega) 8 (by decide) x h0 (by simpa using h1)
  have e : ((2 : Int) ^ 8 - 1) = 255 := by decide
  rw [e] at this
  rw [this]
  have e2 : ((2 : Int) ^ 8) = 256 := by decide
  rw [e2]; omega
theorem sb0 (s : BitVec 32) : bits .and .u32 (s.toNat : Int) 255 % 256 = sb s 0 := by
  have := s.isLt
  rw [mask s _ (by omega) (by omega)]; unfold sb; simp
theorem sb1 (s : BitVec 32) : bits .and .u32 ((s.toNat : Int) / 256) 255 % 256 = sb s 1 := by
  have := s.isLt
  rw [mask s _ (by omega) (by omega)]; unfold sb; simp
theorem sb2 (s : BitVec 32) : bits .and .u32 ((s.toNat : Int) / 65536) 255 % 256 = sb s 2 := by
  have := s.isLt
  rw [mask s _ (by omega) (by omega)]; unfold sb; simp
theorem sb3 (s : BitVec 32) : (s.toNat : Int) / 16777216 = sb s 3 := by
  have := s.isLt
  unfold sb; simp; omega

theorem news4 (W : World) (x y z u : Int) : ∀ (j : Nat) (v : Value), [Value.int .u8 x, .int .u8 y, .int .u8 z, .int .u8 u][j]? = some v → (W.alloc (.cells #[.int .u8 x, .int .u8 y, .int .u8 z, .int .u8 u] 5)).cell? (Addr.add ⟨W.heap.size, 0, none⟩ j) = some v := by
  intro j v hj
  rw [show Addr.add ⟨W.heap.size, 0, none⟩ j = ⟨W.heap.size, j, none⟩ by unfold Addr.add; split <;> simp_all, World.cell?_alloc_mark]
  simpa using hj
theorem one4 (x y z u : Int) : ∀ v ∈ [Value.int .u8 x, .int .u8 y, .int .u8 z, .int .u8 u], v.oneCell' = true := by
  intro v hv
  simp only [List.mem_cons, List.not_mem_nil, or_false] at hv
  rcases hv with rfl | rfl | rfl | rfl <;> rfl
theorem own_ge {W : World} {B n : Nat} {v : Value} {xs : List Value} (h : W.ownsRow B 5 1 v n xs) : ∀ k, v.ownBlock = some k → B ≤ k := by
  intro k hk
  rcases h.2 with ⟨rfl, _⟩ | ⟨g, cap, cur, rfl, hg, _⟩
  · cases hk
  · obtain rfl : g = k := by simpa [Value.ownBlock] using hk
    exact hg

/-! ### STEP 1: THE WALK: the Go text returns true, AND WRITES NOTHING THAT WAS THERE: 'Below w.heap.size w w'' (Derived/Below.lean: '.refl', '.alloc', '.drew', '.setCell' at a new block, '.trans'). Open each 'IsRow' by 'rcases' AHEAD of 'go_enter'; part every test ahead of the walk. -/
set_option maxHeartbeats 1000000 in
theorem walk (a0 : Option Addr) (len0 cap0 : Nat) (z0 : List Int) (w : World) (w0 : IsRow .u8 w a0 len0 cap0 z0) :
    Calls Try.prog 8 #[.slice a0 len0 cap0] w fun e w' => e = .returned (.bool true) ∧ Below w.heap.size w w' := by
  obtain ⟨xs, rfl, hr, hb, hl⟩ := rd_of w a0 len0 cap0 z0 w0
  have hnil : a0 = none → cap0 = 0 := by
    rintro rfl
    rcases w0 with ⟨_, _, h, _⟩ | ⟨x, h, _⟩
    · exact h
    · cases h
  clear w0
  by_cases h : 5000 < xs.length
  · go_enter Try.func8, Try.ntmps8
    go_wp2_with fail
    refine (alive_any w).mono ?_
    rintro e w' ⟨rfl, hbel⟩
    go_wp2_with fail
    go_ret
    exact ⟨rfl, hbel⟩
  · obtain ⟨i0, hi, hz0, hz1, hz2⟩ := info_parts info5
    have hS := sum_any a0 xs cap0 w hr hl hb
    have hrest := hidden (rest_law xs)
    generalize more 0#32 xs = s at hS hrest
    have E := hidden (And.intro (sb0 s) (And.intro (sb1 s) (And.intro (sb2 s) (sb3 s))))
    have g0 : (0 : Int) ≤ (s.toNat : Int) := by omega
    have g1 : (s.toNat : Int) < 4294967296 := by have := s.isLt; omega
    generalize (s.toNat : Int) = sv at hS E g0 g1 ⊢
    go_enter Try.func8, Try.ntmps8
    go_wp2_with fail
    refine hS.mono ?_
    rintro e w' ⟨rfl, rfl⟩
    clear hS
    go_wp2_with (first
      | (at_builtin; refine wpList_clone w rfl (.tmp 11) (.tmp 12) rfl rfl a0 xs.length cap0 rfl hnil xs rfl hr (by omega) ?_; intro v1 W1 hown1 hbel1)
      | (at_builtin; refine wpList_append_own _ rfl (.tmp 13) (.tmp 28) 22 rfl w.heap.size 5 i0 (.int .u8 0) 1 1 Try.underlying22 hi hz0 hz1 hz2 rfl (by decide) v1 xs.length _ rfl (hown1.alloc _) ⟨W1.heap.size, 0, none⟩ 4 4 [.int .u8 (bits .and .u32 sv 255 % 256), .int .u8 (bits .and .u32 (sv / 256) 255 % 256), .int .u8 (bits .and .u32 (sv / 65536) 255 % 256), .int .u8 (sv / 16777216)] rfl rfl (news4 W1 _ _ _ _) (one4 _ _ _ _) (by unfold maxLen; omega) (by omega) (by have := hbel1.size; simp; omega) ?_; intro v2 W2 hown2 hgrow2 _))
    have hbel2 : Below w.heap.size w W2 := (hbel1.alloc hbel1.size _).grown hgrow2 (by have := hbel1.size; simp; omega) (own_ge hown1)
    rw [E.out.1, E.out.2.1, E.out.2.2.1, E.out.2.2.2] at hown2
    obtain ⟨a2, c2, hv2, hr2⟩ := rd_own (zs := xs ++ [sb s 0, sb s 1, sb s 2, sb s 3]) (by simpa using hown2) (by simp)
    clear hown1 hown2 hgrow2 hr hbel1
    rw [hv2]
    go_wp2_with fail
    refine (sum_len a2 _ (xs.length + 4) c2 W2 (by simp) hr2 (by omega) (by
      intro x hx
      rcases List.mem_append.1 hx with hx | hx
      · exact hb x hx
      · simp only [List.mem_cons, List.not_mem_nil, or_false] at hx
        rcases hx with rfl | rfl | rfl | rfl <;> exact sb_bd _ _)).mono ?_
    rintro e w' ⟨rfl, rfl⟩
    rw [hrest.out, show ((558161692#32).toNat : Int) = 558161692 from rfl]
    go_wp2_with fail
    refine (alive_any W2).mono ?_
    rintro e w' ⟨rfl, hbel⟩
    go_wp2_with fail
    go_ret
    exact ⟨rfl, hbel2.trans (hbel.mono hbel2.size)⟩

/-! ### THE ROW's STEP: WRITTEN OUT: LEAVE IT -/
set_option maxRecDepth 100000 in
theorem lifted (os : Os) (started : os.Started) (H : Type) (enc : TypeId × Value → H) :
    ReturnsInHanded {} Try.checked os 8 .any (Rows.crcRestSpec.pre6 enc Try.prog Try.f8 Rows.crcRestRow.domain false) (Rows.crcRestSpec.post enc Try.prog Try.f8 false true false false) := by
  refine returnsInHanded_of_change (C := Try.checked) own started (by kernel_rfl) Try.func8
    (ChangeSpec.witness6 (enc := enc) (C := Try.checked) false ⟨#[], #[.slice none 0 0], []⟩ 8 (by kernel_rfl) (by kernel_rfl) (by kernel_rfl) (by kernel_rfl)) ?_
  intro W base args ds gs before hval0 hW hcnd _
  have hval : ∀ (j : Nat) t v, Try.f8.params[j]? = some t → args[j]? = some v → Value.okWide Try.prog W .any base t v := hval0
  have hW' := hW
  obtain ⟨p, q, hA0, hV, rfl, hfz, hnd⟩ := hW
  have hA : DataW.TrodAll enc Try.prog W 0 (fun _ => true) true Try.f8.params.toList args.toList ds p := hA0
  rw [Try.params8] at hA hval
  obtain ⟨v0, vs0, d0, ds0, p0, q0, hargs, rfl, rfl, h0, r0⟩ := trodAll_cons hA
  obtain ⟨rfl, rfl, rfl⟩ := trodAll_nil r0
  obtain rfl : args = #[v0] := by cases args; simp_all
  obtain ⟨rfl, rfl⟩ := trodVars_none hV
  obtain ⟨a0, len0, cap0, rfl⟩ := okWide_slice Try.underlying22 (hval 0 22 v0 rfl rfl)
  have k0 := h0
  have lt0 : ∀ x ∈ p0, x.block < W.heap.size := by obtain ⟨m, hm⟩ := k0; exact DataW.trod_lt m _ _ _ hm
  obtain ⟨z0, w0⟩ : ∃ zs, IsRow .u8 W a0 len0 cap0 zs := by
    obtain ⟨fuel, hf⟩ := h0
    rcases open_ints Try.underlying22 Try.underlying5 (by kernel_rfl) hf with ⟨hcs, _⟩ | ⟨x, l, c, zs, hcs, _, hl, hm, hz, _, hcell, hwz⟩
    · simp [Value.cells] at hcs
      obtain ⟨rfl, rfl, rfl⟩ := hcs
      exact ⟨[], .inl ⟨rfl, rfl, rfl, rfl⟩⟩
    · simp [Value.cells] at hcs
      obtain ⟨rfl, rfl, rfl⟩ := hcs
      exact ⟨zs, .inr ⟨_, rfl, hl, hm, by simpa using hz, hcell, hwz⟩⟩
  clear hA0 hval0
  refine (walk a0 len0 cap0 z0 W w0).mono fun e W' ⟨he, bel⟩ => ?_
  subst he
  exact ⟨_, rfl, _, _, _, [], _, [], hW', trodAll_mk1 (shut_bool Try.underlying4 _), (trodAll_cons_mk (Below.trod laidOut (by kernel_rfl) (of_decide_eq_true (by kernel_rfl)) k0 bel lt0) trodAll_mk0), rfl, bel.frame _, fun h => by cases h⟩

theorem over : Rows.crcRestRow.holds Try.pinned (OpenSpec.ofChange Rows.crcRestSpec) :=
  OpenClaim.holds_of_wide 8 Try.f8 rfl rfl rfl rfl rfl rfl rfl ⟨rfl, rfl, rfl, rfl, rfl⟩ rfl rfl rfl rfl rfl (by kernel_rfl) Try.func8 (by kernel_rfl)
    (of_decide_eq_true (by kernel_rfl)) (by unfold Func.isWrapper; first | (rw [if_pos (by decide +kernel)]; kernel_rfl) | (rw [if_neg (by decide +kernel)]; exact ⟨rfl, rfl⟩))
    (fun os started H enc _ => lifted os started H enc)

/-- ████ THE STATEMENT ████ -/
theorem proved : Rows.CrcRestSaid := over
#print axioms proved
end Go.Proofs.Ytpfmcobphaajlaa.crcRest
