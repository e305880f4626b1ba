/-
  The walks of the leaves: numbers and ballots.
  The walks of the leaves, further: what a replica accepts; ballots that follow.
  The walks of the leaves: a replica's answer; the greatest of two ballots.
  The walks of the leaves: the greatest of two ballots; the first of two kinds that is not zero.
  The walks of numbers as bytes.
  The walks of numbers as bytes: four bytes, the lowest first.
  The plain law of the sum: registers as bit vectors of 32 bits; steps are linear and one-to-one; no program in sight.
  The walks of the sum, each function once.
  The walk of a number of eight bytes.
-/
import Derived.Test.YtkmocipdekogkaaGreatDoorProg
import Derived.ProofKit
import Derived.WalkKit
import Derived.WalkSpells
import Derived.WalkLawsBesides
import Derived.WalkSmall
import Derived.StillTailTactics
import Derived.Deep.RegionHeld3
import Derived.Deep.RegionLaw
import Derived.Deep.AppendLies
import Derived.OwnWalk
import Derived.Deep.QuietTactic
import Derived.BigQuiet
import Derived.Below
import Derived.LoopN
import Derived.Handy
import Derived.Laws.ShiftsVar
import Derived.Laws.ShiftsVarLaws
import Derived.Laws.BitsLemmas
import Derived.Outline
set_option linter.all false
section
namespace Go.Proofs.YtkmocipdekogkaaGreatDoor
set_option linter.unusedVariables false
set_option linter.unusedSimpArgs false
open Go.RowKit

theorem hidden {p : Prop} (h : p) : Hid p := h

set_option maxHeartbeats 400000 in
theorem isNaN_any (x : Int) (w : World) : Calls Tryz.prog 261 #[.int .u64 x] w fun e w' => e = .returned (.bool false) ∧ w = w' := by
  go_enter Tryz.func261, Tryz.ntmps261
  go_wp2
  go_ret
  exact ⟨by simp, rfl⟩

def cmpI (x y : Int) : Int := if x < y then -1 else if y < x then 1 else 0

set_option maxHeartbeats 400000 in
theorem compare_any (x y : Int) (w : World) : Calls Tryz.prog 193 #[.int .u64 x, .int .u64 y] w fun e w' => e = .returned (.int .i64 (cmpI x y)) ∧ w = w' := by
  unfold cmpI
  by_cases h1 : x < y
  · have d1 : decide (x < y) = true := by simpa using h1
    rw [if_pos h1]
    clear h1
    go_enter Tryz.func193, Tryz.ntmps193
    go_wp2_with (refine (isNaN_any _ _).mono ?_; rintro e w' ⟨rfl, rfl⟩)
    go_ret
    exact ⟨rfl, rfl⟩
  · have d1 : decide (x < y) = false := by simpa using h1
    rw [if_neg h1]
    by_cases h2 : y < x
    · have d2 : decide (y < x) = true := by simpa using h2
      rw [if_pos h2]
      clear h1 h2
      go_enter Tryz.func193, Tryz.ntmps193
      go_wp2_with (refine (isNaN_any _ _).mono ?_; rintro e w' ⟨rfl, rfl⟩)
      go_ret
      exact ⟨rfl, rfl⟩
    · have d2 : decide (y < x) = false := by simpa using h2
      rw [if_neg h2]
      clear h1 h2
      go_enter Tryz.func193, Tryz.ntmps193
      go_wp2_with (refine (isNaN_any _ _).mono ?_; rintro e w' ⟨rfl, rfl⟩)
      go_ret
      exact ⟨rfl, rfl⟩

def orI (a b : Int) : Int := if a = 0 then b else a

set_option maxHeartbeats 400000 in
theorem or2_any (g : Nat) (a b : Int) (w : World) (h0 : w.cell? ⟨g, 0, none⟩ = some (.int .i64 a)) (h1 : w.cell? ⟨g, 1, none⟩ = some (.int .i64 b)) :
    Calls Tryz.prog 192 #[.slice (some ⟨g, 0, none⟩) 2 2] w fun e w' => e = .returned (.int .i64 (orI a b)) ∧ w = w' := by
  unfold orI
  by_cases ha : a = 0
  · subst ha
    rw [if_pos rfl]
    by_cases hb : b = 0
    · subst hb
      go_enter Tryz.func192, Tryz.ntmps192
      go_wp2
      refine wp_loop_rounds 3 ?_
      rw [rounds_succ]; go_wp2
      rw [rounds_succ]; go_wp2
      rw [rounds_succ]; go_wp2
      go_ret
      exact ⟨rfl, rfl⟩
    · have d1 : (b != (0 : Int)) = true := by simpa using hb
      clear hb
      go_enter Tryz.func192, Tryz.ntmps192
      go_wp2
      refine wp_loop_rounds 2 ?_
      rw [rounds_succ]; go_wp2
      rw [rounds_succ]; go_wp2
      go_ret
      exact ⟨rfl, rfl⟩
  · have d1 : (a != (0 : Int)) = true := by simpa using ha
    rw [if_neg ha]
    clear ha
    go_enter Tryz.func192, Tryz.ntmps192
    go_wp2
    refine wp_loop_rounds 1 ?_
    rw [rounds_succ]; go_wp2
    go_ret
    exact ⟨rfl, rfl⟩

/-- An order of ballots. -/
def ordB (a b : Int × Int) : Int := orI (cmpI a.1 b.1) (cmpI a.2 b.2)
def blt (b : Int × Int) : Value := .agg #[.int .u64 b.1, .int .u64 b.2]

theorem new0 (W : World) (u v : Value) (t : TypeId) : (W.alloc (.cells #[u, v] t)).drew.cell? ⟨W.heap.size, 0, none⟩ = some u := by
  show (W.alloc (.cells #[u, v] t)).cell? _ = _
  rw [cell_of_row _ W.heap.size 0 #[u, v] t (0, 0) (heap_alloc_new W _)]; rfl
theorem new1 (W : World) (u v : Value) (t : TypeId) : (W.alloc (.cells #[u, v] t)).drew.cell? ⟨W.heap.size, 1, none⟩ = some v := by
  show (W.alloc (.cells #[u, v] t)).cell? _ = _
  rw [cell_of_row _ W.heap.size 1 #[u, v] t (0, 0) (heap_alloc_new W _)]; rfl
theorem bel_on {a b c : World} (h : Below a.heap.size a b) (k : Below b.heap.size b c) : Below a.heap.size a c := h.trans (k.mono h.size)
theorem bel_0 (a : World) (o : Obj) : Below a.heap.size a (a.alloc o) := (Below.refl _ _).alloc (Nat.le_refl _) o

/-- What the walk of an order keeps. -/
def Ko (w : World) (a0 a1 b0 b1 : Int) (V : World) : Prop := Below w.heap.size w V ∧ w.heap.size + 2 ≤ V.heap.size ∧ V.cell? ⟨w.heap.size, 0, none⟩ = some (.int .u64 a0) ∧ V.cell? ⟨w.heap.size, 1, none⟩ = some (.int .u64 a1) ∧ V.cell? ⟨w.heap.size + 1, 0, none⟩ = some (.int .u64 b0) ∧ V.cell? ⟨w.heap.size + 1, 1, none⟩ = some (.int .u64 b1)
theorem Ko.drew {w : World} {a0 a1 b0 b1 : Int} {V : World} (h : Ko w a0 a1 b0 b1 V) : Ko w a0 a1 b0 b1 V.drew := ⟨h.1.drew, h.2⟩
theorem Ko.alloc {w : World} {a0 a1 b0 b1 : Int} {V : World} (h : Ko w a0 a1 b0 b1 V) (o : Obj) : Ko w a0 a1 b0 b1 (V.alloc o) := by
  obtain ⟨h1, h2, h3, h4, h5, h6⟩ := h
  refine ⟨h1.alloc h1.size o, by simp; omega, ?_, ?_, ?_, ?_⟩
  · rw [World.cell?_alloc_lt _ _ _ (World.block_lt_of_cell? V _ h3)]; exact h3
  · rw [World.cell?_alloc_lt _ _ _ (World.block_lt_of_cell? V _ h4)]; exact h4
  · rw [World.cell?_alloc_lt _ _ _ (World.block_lt_of_cell? V _ h5)]; exact h5
  · rw [World.cell?_alloc_lt _ _ _ (World.block_lt_of_cell? V _ h6)]; exact h6

set_option maxHeartbeats 1000000 in
theorem order_any (a b : Int × Int) (w : World) : Calls Tryz.prog 296 #[blt a, blt b] w fun e w' => e = .returned (.int .i64 (ordB a b)) ∧ Below w.heap.size w w' := by
  obtain ⟨a0, a1⟩ := a
  obtain ⟨b0, b1⟩ := b
  unfold ordB blt
  simp only
  go_enter Tryz.func296, Tryz.ntmps296
  go_wp2_with fail
  obtain ⟨W, hW⟩ : ∃ W, W = ((w.alloc (.cells #[.int .u64 a0, .int .u64 a1] 55)).alloc (.cells #[.int .u64 b0, .int .u64 b1] 55)) := ⟨_, rfl⟩
  have k0 : Ko w a0 a1 b0 b1 W := by
    rw [hW]
    exact ⟨((Below.refl _ _).alloc (Nat.le_refl _) _).alloc (by simp) _, by simp, by go_simp, by go_simp, by go_simp, by go_simp⟩
  rw [← hW]
  clear hW
  go_region_held3 (fun V => Below w.heap.size w V ∧ w.heap.size + 2 ≤ V.heap.size ∧ V.cell? ⟨w.heap.size, 0, none⟩ = some (.int .u64 a0) ∧ V.cell? ⟨w.heap.size, 1, none⟩ = some (.int .u64 a1) ∧ V.cell? ⟨w.heap.size + 1, 0, none⟩ = some (.int .u64 b0) ∧ V.cell? ⟨w.heap.size + 1, 1, none⟩ = some (.int .u64 b1))
    (first
      | assumption
      | exact Ko.drew (by assumption)
      | exact Ko.alloc (by assumption) _)
    (first
      | (go_at_call 193; refine (compare_any _ _ _).mono ?_; rintro e w' ⟨rfl, rfl⟩)
      | (go_at_call 192; refine (or2_any _ _ _ _ (new0 _ _ _ _) (new1 _ _ _ _)).mono ?_; rintro e w' ⟨rfl, rfl⟩))
  go_wp2_with fail
  go_ret
  exact ⟨rfl, (show _ ∧ _ by assumption).1⟩

def lessB (a b : Int × Int) : Bool := decide (ordB a b < 0)

set_option maxHeartbeats 400000 in
theorem less_any (a b : Int × Int) (w : World) : Calls Tryz.prog 219 #[blt a, blt b] w fun e w' => e = .returned (.bool (lessB a b)) ∧ Below w.heap.size w w' := by
  obtain ⟨a0, a1⟩ := a
  obtain ⟨b0, b1⟩ := b
  have ho := fun W => order_any (a0, a1) (b0, b1) W
  unfold blt at *
  simp only at *
  unfold lessB
  generalize ordB (a0, a1) (b0, b1) = o at *
  go_enter Tryz.func219, Tryz.ntmps219
  go_wp2_with fail
  refine (ho _).mono ?_
  rintro e w1 ⟨rfl, h1⟩
  go_wp2_with fail
  go_ret
  exact ⟨rfl, bel_on (bel_on (bel_0 _ _) (bel_0 _ _)) h1⟩

def mixA (x : Int) : Int := IntKind.u64.wrap (x + 11400714819323198485)
def mixB (a : Int) : Int := IntKind.u64.wrap (bits BinOp.xor IntKind.u64 a (a / 1073741824) * 13787848793156543929)
def mixC (b : Int) : Int := IntKind.u64.wrap (bits BinOp.xor IntKind.u64 b (b / 134217728) * 10723151780598845931)
def mixI (x : Int) : Int := bits BinOp.xor IntKind.u64 (mixC (mixB (mixA x))) (mixC (mixB (mixA x)) / 2147483648)

set_option maxHeartbeats 400000 in
theorem mix_any (x : Int) (w : World) : Calls Tryz.prog 244 #[.int .u64 x] w fun e w' => e = .returned (.int .u64 (mixI x)) ∧ w = w' := by
  go_enter Tryz.func244, Tryz.ntmps244
  go_wp2_with fail
  go_ret
  exact ⟨rfl, rfl⟩

def atI (id i : Int) : Int := mixI (IntKind.u64.wrap (mixI id + i))

set_option maxHeartbeats 400000 in
theorem at_any (id i : Int) (h0 : 0 ≤ i) (h1 : i < 64) (w : World) : Calls Tryz.prog 240 #[.int .u64 id, .int .i64 i] w fun e w' => e = .returned (.int .u64 (atI id i)) ∧ w = w' := by
  unfold atI
  go_enter Tryz.func240, Tryz.ntmps240
  go_wp2_with (refine (mix_any _ _).mono ?_; rintro e w' ⟨rfl, rfl⟩)
  go_ret
  exact ⟨rfl, rfl⟩

def toldB (v : Int) : Bool := decide (1 ≤ v) && decide (v ≤ 3)

set_option maxHeartbeats 400000 in
theorem told_any (v : Int) (w : World) : Calls Tryz.prog 218 #[.int .i64 v] w fun e w' => e = .returned (.bool (toldB v)) ∧ w = w' := by
  unfold toldB
  by_cases h1 : 1 ≤ v
  · have d1 : decide (1 ≤ v) = true := by simpa using h1
    rw [d1]
    clear h1
    go_enter Tryz.func218, Tryz.ntmps218
    go_wp2
    go_ret
    exact ⟨by simp, rfl⟩
  · have d1 : decide (1 ≤ v) = false := by simpa using h1
    rw [d1]
    clear h1
    go_enter Tryz.func218, Tryz.ntmps218
    go_wp2
    go_ret
    exact ⟨by simp, rfl⟩

/-- What a replica holds of a trace. -/
structure Reg where
  p : Int × Int
  t : Int × Int
  v : Int
deriving DecidableEq
def Reg.val (r : Reg) : Value := .agg #[.int .u64 r.p.1, .int .u64 r.p.2, .int .u64 r.t.1, .int .u64 r.t.2, .int .i64 r.v]
def standsB (r : Reg) (b : Int × Int) : Bool := decide (b.1 > 0) && !lessB b r.p

set_option maxHeartbeats 400000 in
theorem stands_any (r : Reg) (b : Int × Int) (w : World) : Calls Tryz.prog 247 #[r.val, blt b] w fun e w' => e = .returned (.bool (standsB r b)) ∧ Below w.heap.size w w' := by
  obtain ⟨⟨p0, p1⟩, ⟨t0, t1⟩, v⟩ := r
  obtain ⟨b0, b1⟩ := b
  have ho := fun W => less_any (b0, b1) (p0, p1) W
  unfold standsB Reg.val
  unfold blt at *
  simp only at *
  generalize lessB (b0, b1) (p0, p1) = o at *
  by_cases h1 : b0 > 0
  · have d1 : decide (b0 > 0) = true := by simpa using h1
    have d2 : decide (0 < b0) = true := by simpa using h1
    rw [d1]
    clear h1
    go_enter Tryz.func247, Tryz.ntmps247
    go_wp2_with (refine (ho _).mono ?_; rintro e w1 ⟨rfl, hb⟩)
    go_ret
    exact ⟨by simp, bel_on (bel_on (bel_0 _ _) (bel_0 _ _)) hb⟩
  · have d1 : decide (b0 > 0) = false := by simpa using h1
    have d2 : decide (0 < b0) = false := by simpa using h1
    rw [d1]
    clear h1
    go_enter Tryz.func247, Tryz.ntmps247
    go_wp2_with (refine (ho _).mono ?_; rintro e w1 ⟨rfl, hb⟩)
    go_ret
    exact ⟨by simp, bel_on (bel_0 _ _) (bel_0 _ _)⟩

def prepR (r : Reg) (b : Int × Int) : Reg × Bool := if standsB r b then ({ r with p := b }, true) else (r, false)

/-- Cells of a world, by block, place and what they hold; none of them is shut. -/
def At (W : World) (L : List (Nat × Nat × Value)) : Prop := ∀ x ∈ L, W.cell? ⟨x.1, x.2.1, none⟩ = some x.2.2 ∧ W.frozen? ⟨x.1, x.2.1, none⟩ = false
theorem At.on {W V : World} {L : List (Nat × Nat × Value)} (h : At W L) (hb : Below W.heap.size W V) : At V L := fun x hx => by
  have hlt := World.block_lt_of_cell? W _ (h x hx).1
  rw [hb.cell hlt, hb.frozen hlt]; exact h x hx
theorem At.nil (W : World) : At W [] := fun x hx => by cases hx
/-- A block's cells. -/
def rowL (g : Nat) : Nat → List Value → List (Nat × Nat × Value)
  | _, [] => []
  | i, v :: l => (g, i, v) :: rowL g (i + 1) l
theorem rowL_mem {g : Nat} : ∀ {i : Nat} {l : List Value} {x : Nat × Nat × Value}, x ∈ rowL g i l → x.1 = g ∧ ∃ j, x.2.1 = i + j ∧ l[j]? = some x.2.2
  | i, v :: l, x, h => by
    rw [rowL, List.mem_cons] at h
    rcases h with rfl | h
    · exact ⟨rfl, 0, rfl, rfl⟩
    · obtain ⟨h1, j, h2, h3⟩ := rowL_mem h
      exact ⟨h1, j + 1, by omega, by simpa using h3⟩
theorem At.add {W : World} {L : List (Nat × Nat × Value)} (h : At W L) (cs : List Value) (t : TypeId) : At (W.alloc (.cells cs.toArray t)) (L ++ rowL W.heap.size 0 cs) := fun x hx => by
  rcases List.mem_append.1 hx with hx | hx
  · exact h.on (bel_0 _ _) x hx
  · obtain ⟨h1, j, h2, h3⟩ := rowL_mem hx
    obtain ⟨x1, x2, x3⟩ := x
    simp only at h1 h2 h3
    subst h1 h2
    rw [Nat.zero_add, cell_of_row _ W.heap.size j cs.toArray t (0, 0) (heap_alloc_new W _), frozen_of_row _ W.heap.size j cs.toArray t (heap_alloc_new W _)]
    exact ⟨by simpa using h3, rfl⟩
theorem at_simp {W : World} {L : List (Nat × Nat × Value)} (h : At W L) : At W L := h

set_option maxHeartbeats 1000000 in
theorem prepare_any (r : Reg) (b : Int × Int) (w : World) : Calls Tryz.prog 174 #[r.val, blt b] w fun e w' => e = .returned (.tuple #[(prepR r b).1.val, .bool (prepR r b).2]) ∧ Below w.heap.size w w' := by
  have ho := fun W => stands_any r b W
  unfold prepR
  obtain ⟨⟨p0, p1⟩, ⟨t0, t1⟩, v⟩ := r
  obtain ⟨b0, b1⟩ := b
  unfold Reg.val at *
  unfold blt at *
  simp only at *
  generalize standsB _ _ = o at *
  go_enter Tryz.func174, Tryz.ntmps174
  go_wp2_with fail
  have K := (((At.nil w).add [.int .u64 p0, .int .u64 p1, .int .u64 t0, .int .u64 t1, .int .i64 v] 203).add [.int .u64 b0, .int .u64 b1] 55).add [.int .u64 0, .int .u64 0, .int .u64 0, .int .u64 0, .int .i64 0] 203
  refine (ho _).mono ?_
  rintro e w1 ⟨rfl, hb⟩
  replace K := K.on hb
  simp only [At, rowL, World.size_alloc, List.nil_append, List.cons_append, List.forall_mem_cons, List.not_mem_nil, false_implies, implies_true, and_true, Nat.zero_add, Nat.reduceAdd] at K
  have B := bel_on (bel_on (bel_on (bel_0 _ _) (bel_0 _ _)) (bel_0 _ _)) hb
  have hsz := B.size
  clear hb ho
  cases o
  · go_wp2_with fail
    refine bodyPost_ret (by simp [results, Tryz.results174, go_sem, K]; try rfl) rfl ?_
    exact ⟨by simp, by clear K; go_grown⟩
  · go_wp2_with fail
    refine bodyPost_ret (by simp [results, Tryz.results174, go_sem, K]; try rfl) rfl ?_
    exact ⟨by simp, by clear K; go_grown⟩
end Go.Proofs.YtkmocipdekogkaaGreatDoor
end
section
namespace Go.Proofs.YtkmocipdekogkaaGreatDoor
set_option linter.unusedVariables false
set_option linter.unusedSimpArgs false
open Go.RowKit

def acceptR (r : Reg) (b : Int × Int) (v : Int) : Reg × Bool :=
  if !standsB r b then (r, false) else if !toldB v then (r, false) else if r.t == b && r.v != v then (r, false) else (⟨b, b, v⟩, true)

set_option maxHeartbeats 1000000 in
theorem accept_any (r : Reg) (b : Int × Int) (v : Int) (w : World) : Calls Tryz.prog 175 #[r.val, blt b, .int .i64 v] w fun e w' => e = .returned (.tuple #[(acceptR r b v).1.val, .bool (acceptR r b v).2]) ∧ Below w.heap.size w w' := by
  have ho := fun W => stands_any r b W
  have ht := fun W => told_any v W
  unfold acceptR
  obtain ⟨⟨p0, p1⟩, ⟨t0, t1⟩, x⟩ := r
  obtain ⟨b0, b1⟩ := b
  unfold Reg.val at *
  unfold blt at *
  simp only at *
  generalize standsB _ _ = o at *
  generalize toldB v = tv at *
  have heq : ((t0, t1) == (b0, b1)) = (t0 == b0 && t1 == b1) := rfl
  rw [heq]
  clear heq
  go_enter Tryz.func175, Tryz.ntmps175
  go_wp2_with fail
  have K := (((At.nil w).add [.int .u64 p0, .int .u64 p1, .int .u64 t0, .int .u64 t1, .int .i64 x] 203).add [.int .u64 b0, .int .u64 b1] 55).add [.int .u64 0, .int .u64 0, .int .u64 0, .int .u64 0, .int .i64 0] 203
  refine (ho _).mono ?_
  rintro e w1 ⟨rfl, hb⟩
  replace K := K.on hb
  simp only [At, rowL, World.size_alloc, List.nil_append, List.cons_append, List.forall_mem_cons, List.not_mem_nil, false_implies, implies_true, and_true, Nat.zero_add, Nat.reduceAdd] at K
  have B := bel_on (bel_on (bel_on (bel_0 _ _) (bel_0 _ _)) (bel_0 _ _)) hb
  have hsz := B.size
  clear hb ho
  cases o
  · go_wp2_with fail
    refine bodyPost_ret (by simp [results, Tryz.results175, go_sem, K]; try rfl) rfl ?_
    exact ⟨by simp, by clear K; go_grown⟩
  · go_wp2_with fail
    refine (ht _).mono ?_
    rintro e w' ⟨rfl, rfl⟩
    cases tv
    · go_wp2_with fail
      refine bodyPost_ret (by simp [results, Tryz.results175, go_sem, K]; try rfl) rfl ?_
      exact ⟨by simp, by clear K; go_grown⟩
    · go_wp2_with fail
      all_goals
        refine bodyPost_ret (by simp [results, Tryz.results175, go_sem, K]; try rfl) rfl ?_
        exact ⟨by simp [*], by clear K; go_grown⟩

def maxI (a b : Int) : Int := if a < b then b else a
/-- What follows a ballot. -/
def nextB (seen : Int × Int) (version node : Int) : (Int × Int) × Int :=
  if node == 0 then ((0, 0), 1) else if maxI seen.1 version == 18446744073709551615 then ((0, 0), 12) else ((maxI (seen.1 + 1) version, node), 0)

set_option maxHeartbeats 1000000 in
theorem next_any (s : Int × Int) (v n : Int) (h0 : 0 ≤ s.1) (h1 : s.1 < 18446744073709551616) (h2 : v < 18446744073709551616) (w : World) :
    Calls Tryz.prog 255 #[blt s, .int .u64 v, .int .u64 n] w fun e w' => e = .returned (.tuple #[blt (nextB s v n).1, .int .i64 (nextB s v n).2]) ∧ Below w.heap.size w w' := by
  obtain ⟨s0, s1⟩ := s
  have hw : (if s0 < v then v else s0) ≠ 18446744073709551615 → IntKind.u64.wrap (s0 + 1) = s0 + 1 := fun h => by
    rw [IntKind.wrap_u64]
    split at h <;> omega
  have Hw := hidden hw
  clear hw
  unfold nextB blt maxI
  simp only at *
  clear h0 h1 h2
  generalize hw1 : IntKind.u64.wrap (s0 + 1) = s2 at Hw
  cases hn : (n == (0 : Int))
  · cases hm : ((if s0 < v then v else s0) == (18446744073709551615 : Int))
    · have H3 := Hw.out (by simpa using hm)
      go_enter Tryz.func255, Tryz.ntmps255
      go_wp2_with fail
      all_goals
        refine bodyPost_ret (by simp [results, Tryz.results255, go_sem]; try rfl) rfl ?_
        exact ⟨by simp [*], by go_grown⟩
    · go_enter Tryz.func255, Tryz.ntmps255
      go_wp2_with fail
      all_goals
        refine bodyPost_ret (by simp [results, Tryz.results255, go_sem]; try rfl) rfl ?_
        exact ⟨by simp [*], by go_grown⟩
  · go_enter Tryz.func255, Tryz.ntmps255
    go_wp2_with fail
    all_goals
      refine bodyPost_ret (by simp [results, Tryz.results255, go_sem]; try rfl) rfl ?_
      exact ⟨by simp [*], by go_grown⟩

end Go.Proofs.YtkmocipdekogkaaGreatDoor
end
section
namespace Go.Proofs.YtkmocipdekogkaaGreatDoor
set_option linter.unusedVariables false
set_option linter.unusedSimpArgs false
open Go.RowKit

/-- A packet: its kind, trace, ballots, verdict, word, and its three slices. -/
structure Pk where
  kind : Int
  trace : Int
  b : Int × Int
  seen : Int × Int
  v : Int
  ok : Bool
deriving DecidableEq
def Pk.cells (p : Pk) (x y z : Value) : List Value := [.int .i64 p.kind, .int .u64 p.trace, .int .u64 p.b.1, .int .u64 p.b.2, .int .u64 p.seen.1, .int .u64 p.seen.2, .int .i64 p.v, .bool p.ok, x, y, z]
def nilS : Value := .slice none 0 0
def answerP (r : Reg) (trace : Int) (b : Int × Int) (ok took : Bool) : Pk :=
  { kind := if took then 7 else 5, trace := trace, b := b, seen := if !ok then r.p else if !took then r.t else (0, 0), v := if !ok then 0 else if !took then r.v else 0, ok := ok }

set_option maxHeartbeats 1000000 in
theorem answer_any (r : Reg) (trace : Int) (b : Int × Int) (ok took : Bool) (w : World) :
    Calls Tryz.prog 178 #[r.val, .int .u64 trace, blt b, .bool ok, .bool took] w fun e w' => e = .returned (.agg ((answerP r trace b ok took).cells nilS nilS nilS).toArray) ∧ Below w.heap.size w w' := by
  unfold answerP Pk.cells nilS
  obtain ⟨⟨p0, p1⟩, ⟨t0, t1⟩, x⟩ := r
  obtain ⟨b0, b1⟩ := b
  unfold Reg.val blt
  simp only
  cases ok
  · cases took <;>
    · go_enter Tryz.func178, Tryz.ntmps178
      go_wp2_with fail
      go_returns
      exact ⟨by simp, by go_grown⟩
  · cases took
    · go_enter Tryz.func178, Tryz.ntmps178
      go_wp2_with fail
      all_goals try contradiction
      go_region
      all_goals
        go_wp2_with fail
        go_returns
        exact ⟨by simp, by go_grown⟩
    · go_enter Tryz.func178, Tryz.ntmps178
      go_wp2_with fail
      go_returns
      exact ⟨by simp, by go_grown⟩
end Go.Proofs.YtkmocipdekogkaaGreatDoor
end
section
namespace Go.Proofs.YtkmocipdekogkaaGreatDoor
set_option linter.unusedVariables false
set_option linter.unusedSimpArgs false
open Go.RowKit

set_option maxHeartbeats 400000 in
theorem orK_any (g : Nat) (a b : Int) (w : World) (h0 : w.cell? ⟨g, 0, none⟩ = some (.int .i64 a)) (h1 : w.cell? ⟨g, 1, none⟩ = some (.int .i64 b)) :
    Calls Tryz.prog 225 #[.slice (some ⟨g, 0, none⟩) 2 2] w fun e w' => e = .returned (.int .i64 (orI a b)) ∧ w = w' := by
  unfold orI
  by_cases ha : a = 0
  · subst ha
    rw [if_pos rfl]
    by_cases hb : b = 0
    · subst hb
      go_enter Tryz.func225, Tryz.ntmps225
      go_wp2
      refine wp_loop_rounds 3 ?_
      rw [rounds_succ]; go_wp2
      rw [rounds_succ]; go_wp2
      rw [rounds_succ]; go_wp2
      go_ret
      exact ⟨rfl, rfl⟩
    · have d1 : (b != (0 : Int)) = true := by simpa using hb
      clear hb
      go_enter Tryz.func225, Tryz.ntmps225
      go_wp2
      refine wp_loop_rounds 2 ?_
      rw [rounds_succ]; go_wp2
      rw [rounds_succ]; go_wp2
      go_ret
      exact ⟨rfl, rfl⟩
  · have d1 : (a != (0 : Int)) = true := by simpa using ha
    rw [if_neg ha]
    clear ha
    go_enter Tryz.func225, Tryz.ntmps225
    go_wp2
    refine wp_loop_rounds 1 ?_
    rw [rounds_succ]; go_wp2
    go_ret
    exact ⟨rfl, rfl⟩

def upB (f b : Int × Int) : Int × Int := if decide (ordB f b < 0) then b else f

theorem bel_trans {n : Nat} {a b c : World} (h : Below n a b) (k : Below b.heap.size b c) (hn : n + 2 ≤ b.heap.size) : Below n a c := h.trans (k.mono (by omega))
/-- A slice of ballots: each at its two cells. -/
def RdB (w : World) (g : Nat) (L : List (Int × Int)) : Prop := g < w.heap.size ∧ ∀ i, i < L.length → w.cell? ⟨g, i * 2, none⟩ = some (.int .u64 (L.getD i (0, 0)).1) ∧ w.cell? ⟨g, i * 2 + 1, none⟩ = some (.int .u64 (L.getD i (0, 0)).2)

set_option maxHeartbeats 4000000 in
theorem greatest_any (g : Nat) (f : Int × Int) (L : List (Int × Int)) (hL : L.length ≤ 1000) (w : World) (h : RdB w g L) :
    Calls Tryz.prog 215 #[blt f, .slice (some ⟨g, 0, none⟩) L.length L.length] w fun e w' => e = .returned (blt (L.foldl upB f)) ∧ Below w.heap.size w w' := by
  obtain ⟨hg, hc⟩ := h
  have HC := hidden hc
  clear hc
  go_enter Tryz.func215, Tryz.ntmps215
  obtain ⟨f0, f1⟩ := f
  unfold blt
  go_wp2_with fail
  have K0 := ((At.nil w).add [.int .u64 f0, .int .u64 f1] 55).add [.int .u64 0, .int .u64 0] 55
  have B0 := bel_on (bel_0 w (.cells #[.int .u64 f0, .int .u64 f1] 55)) (bel_0 _ (.cells #[.int .u64 0, .int .u64 0] 55))
  simp only [rowL, World.size_alloc, List.nil_append, List.cons_append, Nat.zero_add, Nat.reduceAdd] at K0
  generalize hW : (w.alloc (.cells #[.int .u64 f0, .int .u64 f1] 55)).alloc (.cells #[.int .u64 0, .int .u64 0] 55) = W at *
  have hWs : w.heap.size + 2 ≤ W.heap.size := by rw [← hW]; simp
  clear hW
  go_loopw [9] (fun i wr => ∃ (k : Nat) (c : Int × Int), k ≤ L.length ∧ i = .int .i64 k ∧ L.foldl upB (f0, f1) = (L.drop k).foldl upB c ∧ Below w.heap.size w wr ∧ w.heap.size + 2 ≤ wr.heap.size ∧
      At wr [(w.heap.size, 0, .int .u64 c.1), (w.heap.size, 1, .int .u64 c.2), (w.heap.size + 1, 0, .int .u64 0), (w.heap.size + 1, 1, .int .u64 0)])
    (fun i _ => L.length - (intOf i).toNat)
  case atStart => exact ⟨0, (f0, f1), Nat.zero_le _, rfl, by rw [List.drop_zero], B0, hWs, K0⟩
  case round =>
    obtain ⟨k, ⟨c0, c1⟩, hk, rfl, hfold, B, hs, K⟩ := hrel
    have K' := K
    simp only [At, List.forall_mem_cons, List.not_mem_nil, false_implies, implies_true, and_true] at K'
    clear K0 B0 hWs
    have n1 : w.heap.size < wr.heap.size := by omega
    have n2 : w.heap.size + 1 < wr.heap.size := by omega
    have n3 : g < wr.heap.size := by omega
    by_cases hlt : k < L.length
    · obtain ⟨x0, x1⟩ := HC.out k hlt
      rw [← B.cell (p := ⟨g, k * 2, none⟩) hg] at x0
      rw [← B.cell (p := ⟨g, k * 2 + 1, none⟩) hg] at x1
      have hd : L.foldl upB (f0, f1) = (L.drop (k + 1)).foldl upB (upB (c0, c1) (L.getD k (0, 0))) := by
        rw [hfold, List.drop_eq_getElem_cons hlt, List.foldl_cons, List.getD_eq_getElem?_getD, List.getElem?_eq_getElem hlt]; rfl
      generalize L.getD k (0, 0) = x at *
      obtain ⟨a0, a1⟩ := x
      have HD := hidden hd
      clear hfold hd
      simp only at x0 x1 K'
      go_wp2_with fail
      replace K := K.add [.int .u64 a0, .int .u64 a1] 55
      replace B := bel_trans B (bel_0 _ (.cells #[.int .u64 a0, .int .u64 a1] 55)) hs
      refine (order_any (c0, c1) (a0, a1) _).mono ?_
      rintro e w2 ⟨rfl, hb⟩
      replace K := K.on hb
      have hs2 : wr.heap.size + 1 ≤ w2.heap.size := by have := hb.size; simpa using this
      replace B := bel_trans B hb (by simp; omega)
      clear hb K' n1 n2 n3 x0 x1
      simp only [At, rowL, List.nil_append, List.cons_append, List.forall_mem_cons, List.not_mem_nil, false_implies, implies_true, and_true, Nat.zero_add, Nat.reduceAdd] at K
      have n1 : w.heap.size < wr.heap.size := by omega
      have n2 : w.heap.size + 1 < wr.heap.size := by omega
      unfold upB at HD
      generalize ordB (c0, c1) (a0, a1) = o at *
      cases ho : decide (o < 0)
      · rw [ho] at HD
        go_wp2_with fail
        go_roundw
        case rel => exact ⟨k + 1, (c0, c1), by omega, by go_num, HD.out, B, by omega, by simp [At, K]⟩
        case measure => simp [intOf]; omega
      · rw [ho] at HD
        go_wp2_with fail
        go_roundw
        case rel => exact ⟨k + 1, (a0, a1), by omega, by go_num, HD.out, by clear K; go_grown, by simp; omega, by simp [At, go_sem, K]⟩
        case measure => simp [intOf]; omega
    · obtain rfl : k = L.length := by omega
      rw [List.drop_length] at hfold
      have HD := hidden hfold
      clear hfold
      go_wp2_with fail
      refine bodyPost_ret (by simp [results, Tryz.results215, go_sem, K']; try rfl) rfl ?_
      exact ⟨by rw [HD.out]; rfl, by clear K'; go_grown⟩

theorem RdB.two {W : World} {g : Nat} {a b : Int × Int} (h : At W [(g, 0, .int .u64 a.1), (g, 1, .int .u64 a.2), (g, 2, .int .u64 b.1), (g, 3, .int .u64 b.2)]) : RdB W g [a, b] := by
  simp only [At, List.forall_mem_cons, List.not_mem_nil, false_implies, implies_true, and_true] at h
  refine ⟨World.block_lt_of_cell? W _ h.1.1, fun i hi => ?_⟩
  rcases i with _ | _ | i
  · exact ⟨h.1.1, h.2.1.1⟩
  · exact ⟨h.2.2.1.1, h.2.2.2.1⟩
  · exact absurd hi (by simp)

set_option maxHeartbeats 1000000 in
theorem max_any (g : Nat) (L : List (Int × Int)) (hL : L.length ≤ 1000) (w : World) (h : RdB w g L) :
    Calls Tryz.prog 142 #[.slice (some ⟨g, 0, none⟩) L.length L.length] w fun e w' => e = .returned (blt (L.foldl upB (0, 0))) ∧ Below w.heap.size w w' := by
  have hg : RdB (w.alloc (.cells #[.int .u64 0, .int .u64 0] 55)) g L := ⟨by simp; exact Nat.lt_succ_of_lt h.1, fun i hi => by
    have := h.2 i hi
    rw [World.cell?_alloc_lt _ _ _ h.1, World.cell?_alloc_lt _ _ _ h.1]; exact this⟩
  have ho := greatest_any g (0, 0) L hL _ hg
  generalize L.foldl upB (0, 0) = r at ho ⊢
  obtain ⟨r0, r1⟩ := r
  unfold blt at *
  go_enter Tryz.func142, Tryz.ntmps142
  go_wp2_with fail
  refine ho.mono ?_
  rintro e w1 ⟨rfl, hb⟩
  have K := (((At.nil w).add [.int .u64 0, .int .u64 0] 55)).on hb
  have B := bel_on (bel_0 _ _) hb
  have hsz := B.size
  simp only [At, rowL, List.nil_append, List.cons_append, List.forall_mem_cons, List.not_mem_nil, false_implies, implies_true, and_true, Nat.zero_add, Nat.reduceAdd] at K
  clear hb
  go_wp2_with fail
  refine bodyPost_ret (by simp [results, Tryz.results142, go_sem, K]; try rfl) rfl ?_
  exact ⟨by simp [*], by clear K; go_grown⟩
end Go.Proofs.YtkmocipdekogkaaGreatDoor
end
section
namespace Go.Proofs.YtkmocipdekogkaaGreatDoor
set_option linter.unusedVariables false
set_option linter.unusedSimpArgs false
open Go.RowKit

theorem info5 : (Tryz.prog.info? 5).map (fun i => (i.zero, i.size, i.bytes)) = some (some (.int .u8 0), 1, 1) := by kernel_rfl
theorem own_ge {W : World} {B n e sz : Nat} {v : Value} {xs : List Value} (h : W.ownsRow B e sz v n xs) : ∀ k, v.ownBlock = some k → B ≤ k := by
  intro k hk
  rcases h.2 with ⟨rfl, _⟩ | ⟨g, cap, cur, rfl, hg, _⟩
  · cases hk
  · obtain rfl : g = k := by simpa [Value.ownBlock] using hk
    exact hg
theorem news1 (W : World) (u : Value) (t : TypeId) : ∀ (j : Nat) (x : Value), [u][j]? = some x → (W.alloc (.cells #[u] t)).cell? (Addr.add ⟨W.heap.size, 0, none⟩ j) = some x := by
  intro j x hj
  rw [WideShapes.add_plain, Nat.zero_add, cell_of_row _ W.heap.size j _ t (0, 0) (heap_alloc_new W _)]
  simpa using hj

theorem one1 (k : IntKind) (x : Int) : ∀ u ∈ [Value.int k x], u.oneCell' = true := by
  intro u hu
  simp only [List.mem_cons, List.not_mem_nil, or_false] at hu
  subst hu; rfl
/-- The first k of a number's eight bytes, the highest first. -/
def be8k (n : Int) (k : Nat) : List Value := (List.range k).map fun (i : Nat) => .int .u8 (n / 2 ^ (56 - 8 * (i : Int)).toNat % 256)
def be8 (n : Int) : List Value := be8k n 8
theorem be8k_succ (n : Int) (k : Nat) : be8k n (k + 1) = be8k n k ++ [.int .u8 (n / 2 ^ (56 - 8 * (k : Int)).toNat % 256)] := by
  unfold be8k; rw [List.range_succ, List.map_append]; rfl

set_option maxRecDepth 100000 in
set_option maxHeartbeats 2000000 in
theorem put64_any (B : Nat) (v : Value) (m : Nat) (xs : List Value) (n : Int) (w : World) (hown : w.ownsRow B 5 1 v m xs) (hB : B ≤ w.heap.size) (hm : m ≤ 1000000) :
    Calls Tryz.prog 249 #[v, .int .u64 n] w fun e w' => ∃ v', e = .returned v' ∧ w'.ownsRow B 5 1 v' (m + 8) (xs ++ be8 n) ∧ Below B w w' := by
  obtain ⟨i0, hi, hz0, hz1, hz2⟩ := info_parts info5
  have HM := hidden hm
  clear hm
  go_enter Tryz.func249, Tryz.ntmps249
  go_wp2_with fail
  go_loopw [0, 5] (fun b i wr => ∃ k : Nat, k ≤ 8 ∧ i = .int .i64 (56 - 8 * k) ∧ wr.ownsRow B 5 1 b (m + k) (xs ++ be8k n k) ∧ Below B w wr) (fun _ i _ => (intOf i + 8).toNat)
  case atStart => exact ⟨0, by omega, rfl, by simpa [be8k] using hown, Below.refl _ _⟩
  case round =>
    obtain ⟨k, hk, rfl, hown, hbel⟩ := hrel
    by_cases hlt : k < 8
    · have HQ := hidden (show (56 : Int) - 8 * (k : Int) - 8 = 56 - 8 * ((k + 1 : Nat) : Int) ∧ (56 - 8 * (k : Int) - 8 + 8).toNat < (56 - 8 * (k : Int) + 8).toNat from ⟨by omega, by omega⟩)
      have HS := hidden (be8k_succ n k)
      have e2 : (0 : Int) ≤ 56 - 8 * (k : Int) := by omega
      have e3 : (56 : Int) - 8 * (k : Int) < 64 := by omega
      generalize (56 : Int) - 8 * (k : Int) = q at *
      go_wp2_with (at_builtin; refine wpList_append_own _ rfl (.tmp 10) (.tmp 16) 38 rfl B 5 i0 _ 1 1 Tryz.underlying38 hi hz0 hz1 hz2 rfl (by decide) _ (m + k) _ rfl (hown.alloc _) ⟨wr.heap.size, 0, none⟩ 1 1 [.int .u8 (n / 2 ^ q.toNat % 256)] rfl rfl (news1 wr _ _) (one1 _ _) (by have := HM.out; unfold maxLen; omega) (by have := HM.out; omega) (by have := hbel.size; simp; omega) ?_; intro v2 W2 hown2 hgrow2 _)
      go_roundw
      case rel => exact ⟨k + 1, by omega, by rw [HQ.out.1], by rw [HS.out, ← List.append_assoc]; exact hown2, (hbel.alloc (by have := hbel.size; omega) _).grown hgrow2 (by have := hbel.size; simp; omega) (own_ge hown)⟩
      case measure => exact HQ.out.2
    · obtain rfl : k = 8 := by omega
      go_wp2_with fail
      go_ret
      exact ⟨_, rfl, hown, hbel⟩
end Go.Proofs.YtkmocipdekogkaaGreatDoor
end
section
namespace Go.Proofs.YtkmocipdekogkaaGreatDoor
set_option linter.unusedVariables false
set_option linter.unusedSimpArgs false
open Go.RowKit

/-- The first k of a number's bytes, the lowest first. -/
def le4k (n : Nat) (k : Nat) : List Value := (List.range k).map fun (i : Nat) => .int .u8 ((n / 256 ^ i % 256 : Nat) : Int)
theorem le4k_succ (n k : Nat) : le4k n (k + 1) = le4k n k ++ [.int .u8 ((n / 256 ^ k % 256 : Nat) : Int)] := by
  unfold le4k; rw [List.range_succ, List.map_append]; rfl

set_option maxRecDepth 100000 in
set_option maxHeartbeats 2000000 in
theorem put32_any (B : Nat) (v : Value) (m : Nat) (xs : List Value) (n : Nat) (w : World) (hown : w.ownsRow B 5 1 v m xs) (hB : B ≤ w.heap.size) (hm : m ≤ 1000000) :
    Calls Tryz.prog 358 #[v, .int .u32 n] w fun e w' => ∃ v', e = .returned v' ∧ w'.ownsRow B 5 1 v' (m + 4) (xs ++ le4k n 4) ∧ Below B w w' := by
  obtain ⟨i0, hi, hz0, hz1, hz2⟩ := info_parts info5
  have HM := hidden hm
  clear hm
  go_enter Tryz.func358, Tryz.ntmps358
  go_wp2_with fail
  go_loopw [0, 1, 5] (fun b x i wr => ∃ k : Nat, k ≤ 4 ∧ i = .int .i64 k ∧ x = .int .u32 (n / 256 ^ k : Nat) ∧ wr.ownsRow B 5 1 b (m + k) (xs ++ le4k n k) ∧ Below B w wr) (fun _ _ i _ => 4 - (intOf i).toNat)
  case atStart => exact ⟨0, by omega, rfl, by simp, by simpa [le4k] using hown, Below.refl _ _⟩
  case round =>
    obtain ⟨k, hk, rfl, rfl, hown, hbel⟩ := hrel
    by_cases hlt : k < 4
    · have HS := hidden (le4k_succ n k)
      have HD := hidden (show n / 256 ^ (k + 1) = n / 256 ^ k / 256 by rw [Nat.pow_succ, Nat.div_div_eq_div_mul])
      generalize n / 256 ^ k = q at *
      go_wp2_with (at_builtin; refine wpList_append_own _ rfl (.tmp 7) (.tmp 10) 38 rfl B 5 i0 _ 1 1 Tryz.underlying38 hi hz0 hz1 hz2 rfl (by decide) _ (m + k) _ rfl (hown.alloc _) ⟨wr.heap.size, 0, none⟩ 1 1 [.int .u8 ((q : Int) % 256)] rfl rfl (news1 wr _ _) (one1 _ _) (by have := HM.out; unfold maxLen; omega) (by have := HM.out; omega) (by have := hbel.size; simp; omega) ?_; intro v2 W2 hown2 hgrow2 _)
      go_roundw
      case rel => exact ⟨k + 1, by omega, by go_num, by rw [HD.out]; go_num, by rw [HS.out, ← List.append_assoc]; exact hown2, (hbel.alloc (by have := hbel.size; omega) _).grown hgrow2 (by have := hbel.size; simp; omega) (own_ge hown)⟩
      case measure => simp [intOf]; omega
    · obtain rfl : k = 4 := by omega
      go_wp2_with fail
      go_ret
      exact ⟨_, rfl, hown, hbel⟩
end Go.Proofs.YtkmocipdekogkaaGreatDoor
end
section
namespace Go.Proofs.YtkmocipdekogkaaGreatDoor

/-- One step of a register, as the program's text reckons it on whole numbers. -/
def stepI (x : Int) : Int := bits .xor .u32 (x / 2) (bits .and .u32 3988292384 (-bits .and .u32 x 1 % 4294967296))
def stepsI : Nat → Int → Int
  | 0, x => x
  | n + 1, x => stepsI n (stepI x)
/-- One step of a register, as the document's answer reckons it. -/
def refStepI (x : Int) : Int := if bits .and .u32 x 1 = 1 then bits .xor .u32 (x / 2) 3988292384 else x / 2

/-- One step of a register. -/
def st (r : BitVec 32) : BitVec 32 := r >>> 1 ^^^ (if r.getLsbD 0 then 3988292384#32 else 0#32)
def sts : Nat → BitVec 32 → BitVec 32
  | 0, r => r
  | n + 1, r => sts n (st r)
/-- A register and a byte. -/
def upd (r : BitVec 32) (x : Int) : BitVec 32 := sts 8 (r ^^^ BitVec.ofInt 32 x)
/-- A register and bytes. -/
def run (r : BitVec 32) (xs : List Int) : BitVec 32 := xs.foldl upd r
/-- The sum of bytes behind others. -/
def more (s : BitVec 32) (xs : List Int) : BitVec 32 := ~~~(run (~~~s) xs)

theorem ofInt_toNat (r : BitVec 32) : BitVec.ofInt 32 (r.toNat : Int) = r := by
  rw [BitVec.ofInt_natCast]; simp

theorem and_one (r : BitVec 32) : r &&& 1#32 = if r.getLsbD 0 then 1#32 else 0#32 := by
  apply BitVec.eq_of_getLsbD_eq
  intro i hi
  rw [BitVec.getLsbD_and, BitVec.getLsbD_one]
  rcases Nat.eq_zero_or_pos i with rfl | hp
  · cases h : r.getLsbD 0 <;> simp
  · have : i ≠ 0 := by omega
    cases h : r.getLsbD 0 <;> simp [this]

theorem wrap_bv (v : BitVec 32) : IntKind.u32.wrap (v.toNat : Int) = (v.toNat : Int) := by
  rw [IntKind.wrap_u32]
  have := v.isLt
  omega
theorem bits_and_bv (a b : BitVec 32) : bits .and .u32 (a.toNat : Int) (b.toNat : Int) = ((a &&& b).toNat : Int) := by
  show IntKind.u32.wrap ((BitVec.ofInt 32 (a.toNat : Int) &&& BitVec.ofInt 32 (b.toNat : Int) : BitVec 32).toNat : Int) = _
  rw [ofInt_toNat, ofInt_toNat, wrap_bv]
theorem bits_xor_int (a : BitVec 32) (x : Int) : bits .xor .u32 (a.toNat : Int) x = ((a ^^^ BitVec.ofInt 32 x).toNat : Int) := by
  show IntKind.u32.wrap ((BitVec.ofInt 32 (a.toNat : Int) ^^^ BitVec.ofInt 32 x : BitVec 32).toNat : Int) = _
  rw [ofInt_toNat, wrap_bv]
theorem bits_xor_bv (a b : BitVec 32) : bits .xor .u32 (a.toNat : Int) (b.toNat : Int) = ((a ^^^ b).toNat : Int) := by
  rw [bits_xor_int, ofInt_toNat]
theorem half (r : BitVec 32) : (r.toNat : Int) / (2 : Int) = ((r >>> 1).toNat : Int) := by
  rw [BitVec.toNat_ushiftRight, Nat.shiftRight_eq_div_pow]; simp
theorem compl_bv (r : BitVec 32) : bits .xor .u32 4294967295 (r.toNat : Int) = ((~~~r).toNat : Int) := by
  have h : (4294967295 : Int) = ((BitVec.allOnes 32).toNat : Int) := by decide
  rw [h, bits_xor_bv, BitVec.allOnes_xor]

theorem stepI_bv (r : BitVec 32) : stepI (r.toNat : Int) = ((st r).toNat : Int) := by
  unfold stepI st
  have h1 : (1 : Int) = ((1#32).toNat : Int) := by decide
  have hp : (3988292384 : Int) = ((3988292384#32).toNat : Int) := by decide
  rw [half]
  conv => lhs; rw [h1, bits_and_bv, and_one]
  cases h : r.getLsbD 0
  · have e : -(((if false = true then 1#32 else 0#32) : BitVec 32).toNat : Int) % 4294967296 = ((0#32).toNat : Int) := by decide
    rw [e, hp, bits_and_bv, bits_xor_bv]; congr 1
  · have e : -(((if true = true then 1#32 else 0#32) : BitVec 32).toNat : Int) % 4294967296 = ((4294967295#32).toNat : Int) := by decide
    rw [e, hp, bits_and_bv, bits_xor_bv]; congr 1

theorem refStepI_bv (r : BitVec 32) : refStepI (r.toNat : Int) = ((st r).toNat : Int) := by
  unfold refStepI st
  have h1 : (1 : Int) = ((1#32).toNat : Int) := by decide
  have hp : (3988292384 : Int) = ((3988292384#32).toNat : Int) := by decide
  rw [half, h1, bits_and_bv, and_one]
  cases h : r.getLsbD 0
  · rw [if_neg (by decide)]; simp
  · rw [if_pos (by decide), hp, bits_xor_bv]; rfl

theorem stepsI_bv (n : Nat) : ∀ r : BitVec 32, stepsI n (r.toNat : Int) = ((sts n r).toNat : Int) := by
  induction n with
  | zero => intro r; rfl
  | succ n ih => intro r; show stepsI n (stepI _) = _; rw [stepI_bv, ih]; rfl
theorem stepsI_snoc (n : Nat) : ∀ x, stepsI (n + 1) x = stepI (stepsI n x) := by
  induction n with
  | zero => intro x; rfl
  | succ n ih => intro x; show stepsI (n + 1) (stepI x) = stepI (stepsI n (stepI x)); rw [ih]
theorem sts_snoc (n : Nat) : ∀ x, sts (n + 1) x = st (sts n x) := by
  induction n with
  | zero => intro x; rfl
  | succ n ih => intro x; show sts (n + 1) (st x) = st (sts n (st x)); rw [ih]
theorem sts_add (m n : Nat) (x : BitVec 32) : sts (m + n) x = sts n (sts m x) := by
  induction n with
  | zero => rfl
  | succ n ih => rw [← Nat.add_assoc, sts_snoc, sts_snoc, ih]

/-! Linear. -/
theorem st_xor (a b : BitVec 32) : st (a ^^^ b) = st a ^^^ st b := by
  unfold st
  rw [BitVec.getLsbD_xor, BitVec.ushiftRight_xor_distrib]
  cases a.getLsbD 0 <;> cases b.getLsbD 0 <;> simp <;> (apply BitVec.eq_of_getLsbD_eq; intro i hi; simp [BitVec.getLsbD_xor]) <;>
    (try (cases (a >>> 1).getLsbD i <;> cases (b >>> 1).getLsbD i <;> cases (3988292384#32).getLsbD i <;> rfl)) <;>
    (try (cases a.getLsbD (1 + i) <;> cases b.getLsbD (1 + i) <;> cases (3988292384#32).getLsbD i <;> simp))
theorem st_zero : st 0#32 = 0#32 := by decide
theorem sts_zero (n : Nat) : sts n 0#32 = 0#32 := by
  induction n with
  | zero => rfl
  | succ n ih => show sts n (st 0#32) = _; rw [st_zero, ih]
theorem sts_xor (n : Nat) : ∀ a b : BitVec 32, sts n (a ^^^ b) = sts n a ^^^ sts n b := by
  induction n with
  | zero => intro a b; rfl
  | succ n ih => intro a b; show sts n (st _) = _; rw [st_xor, ih]; rfl

/-! One-to-one. -/
theorem st_ne (a : BitVec 32) (h : a ≠ 0#32) : st a ≠ 0#32 := by
  intro e
  apply h
  unfold st at e
  cases hb : a.getLsbD 0
  · rw [hb] at e
    simp at e
    apply BitVec.eq_of_getLsbD_eq
    intro i hi
    rcases i with _ | i
    · simpa using hb
    · have := congrArg (fun v => BitVec.getLsbD v i) e
      simp [BitVec.getLsbD_ushiftRight] at this
      rw [Nat.add_comm] at this
      simpa using this
  · rw [hb] at e
    have := congrArg (fun v => BitVec.getLsbD v 31) e
    simp at this
theorem sts_ne (n : Nat) : ∀ a : BitVec 32, a ≠ 0#32 → sts n a ≠ 0#32 := by
  induction n with
  | zero => intro a h; exact h
  | succ n ih => intro a h; exact ih _ (st_ne a h)

/-! Bytes of one length, together. -/
theorem upd_xor (r s : BitVec 32) (x y z : Int) (h : BitVec.ofInt 32 z = BitVec.ofInt 32 x ^^^ BitVec.ofInt 32 y) : upd (r ^^^ s) z = upd r x ^^^ upd s y := by
  unfold upd
  rw [h, ← sts_xor]
  congr 1
  simp only [BitVec.xor_assoc]
  congr 1
  simp only [← BitVec.xor_assoc]
  rw [BitVec.xor_comm s]
theorem run_xor : ∀ (xs ys zs : List Int) (r s : BitVec 32), xs.length = ys.length → zs.length = xs.length →
    (∀ i, i < xs.length → BitVec.ofInt 32 (zs.getD i 0) = BitVec.ofInt 32 (xs.getD i 0) ^^^ BitVec.ofInt 32 (ys.getD i 0)) → run (r ^^^ s) zs = run r xs ^^^ run s ys
  | [], [], [], r, s, _, _, _ => rfl
  | [], _ :: _, _, _, _, h, _, _ => by simp at h
  | [], [], _ :: _, _, _, _, h, _ => by simp at h
  | _ :: _, [], _, _, _, h, _, _ => by simp at h
  | _ :: _, _ :: _, [], _, _, _, h, _ => by simp at h
  | x :: xs, y :: ys, z :: zs, r, s, h1, h2, h => by
    show run (upd (r ^^^ s) z) zs = run (upd r x) xs ^^^ run (upd s y) ys
    rw [upd_xor r s x y z (h 0 (by simp))]
    exact run_xor xs ys zs _ _ (by simpa using h1) (by simpa using h2) fun i hi => by simpa using h (i + 1) (by simpa using hi)

theorem byte_xor (x y : Int) (hx : 0 ≤ x ∧ x ≤ 255) (hy : 0 ≤ y ∧ y ≤ 255) :
    BitVec.ofInt 32 (bits .xor .u8 x y) = BitVec.ofInt 32 x ^^^ BitVec.ofInt 32 y ∧ 0 ≤ bits .xor .u8 x y ∧ bits .xor .u8 x y ≤ 255 := by
  obtain ⟨a, rfl⟩ := Int.eq_ofNat_of_zero_le hx.1
  obtain ⟨b, rfl⟩ := Int.eq_ofNat_of_zero_le hy.1
  have ha : a < 2 ^ 8 := by omega
  have hb : b < 2 ^ 8 := by omega
  have hlt : a ^^^ b < 2 ^ 8 := Nat.xor_lt_two_pow ha hb
  have e : bits .xor .u8 (a : Int) (b : Int) = ((a ^^^ b : Nat) : Int) := by
    show IntKind.u8.wrap ((BitVec.ofInt 8 (a : Int) ^^^ BitVec.ofInt 8 (b : Int) : BitVec 8).toNat : Int) = _
    rw [BitVec.ofInt_natCast, BitVec.ofInt_natCast, IntKind.wrap_u8, BitVec.toNat_xor, BitVec.toNat_ofNat, BitVec.toNat_ofNat, Nat.mod_eq_of_lt ha, Nat.mod_eq_of_lt hb]
    omega
  rw [e]
  refine ⟨?_, by omega, by omega⟩
  rw [BitVec.ofInt_natCast, BitVec.ofInt_natCast, BitVec.ofInt_natCast]
  apply BitVec.eq_of_toNat_eq
  rw [BitVec.toNat_xor, BitVec.toNat_ofNat, BitVec.toNat_ofNat, BitVec.toNat_ofNat, Nat.mod_eq_of_lt (by omega), Nat.mod_eq_of_lt (by omega), Nat.mod_eq_of_lt (by omega)]

/-- The first k places of two texts together, noughts behind. -/
def mix (xs ys : List Int) (k : Nat) : List Int := (List.range xs.length).map fun i => if i < k then bits .xor .u8 (xs.getD i 0) (ys.getD i 0) else 0
theorem mix_length (xs ys : List Int) (k : Nat) : (mix xs ys k).length = xs.length := by simp [mix]
theorem mix_getD (xs ys : List Int) (k i : Nat) (h : i < xs.length) : (mix xs ys k).getD i 0 = if i < k then bits .xor .u8 (xs.getD i 0) (ys.getD i 0) else 0 := by
  rw [List.getD_eq_getElem?_getD]; simp [mix, h]
theorem mix_zero (xs ys : List Int) : mix xs ys 0 = List.replicate xs.length 0 := by
  apply List.ext_getElem?
  intro i
  by_cases h : i < xs.length <;> simp [mix, h]
theorem mix_set (xs ys : List Int) (k : Nat) : (mix xs ys k).set k (bits .xor .u8 (xs.getD k 0) (ys.getD k 0)) = mix xs ys (k + 1) := by
  apply List.ext_getElem?
  intro i
  rw [List.getElem?_set]
  by_cases h : i < xs.length
  · by_cases e : k = i
    · subst e; simp [mix, h]
    · rw [if_neg e]; simp only [mix, List.getElem?_map, List.getElem?_range h, Option.map_some]
      congr 1
      by_cases hk : i < k
      · rw [if_pos hk, if_pos (by omega)]
      · rw [if_neg hk, if_neg (by omega)]
  · have h1 : (mix xs ys (k + 1))[i]? = none := List.getElem?_eq_none (by rw [mix_length]; omega)
    have h2 : (mix xs ys k)[i]? = none := List.getElem?_eq_none (by rw [mix_length]; omega)
    rw [h1, h2, mix_length]
    split
    · rw [if_neg (by omega)]
    · rfl

theorem xor_compl (a b c : BitVec 32) : ~~~a ^^^ ~~~b ^^^ ~~~c = ~~~(a ^^^ b ^^^ c) := by
  apply BitVec.eq_of_getLsbD_eq
  intro i hi
  simp only [BitVec.getLsbD_xor, BitVec.getLsbD_not]
  cases a.getLsbD i <;> cases b.getLsbD i <;> cases c.getLsbD i <;> simp [hi]

theorem linear (xs ys : List Int) (h : xs.length = ys.length) (hx : ∀ x ∈ xs, 0 ≤ x ∧ x ≤ 255) (hy : ∀ y ∈ ys, 0 ≤ y ∧ y ≤ 255) :
    more 0#32 xs ^^^ more 0#32 ys ^^^ more 0#32 (List.replicate xs.length 0) = more 0#32 (mix xs ys xs.length) := by
  unfold more
  rw [xor_compl]
  congr 1
  have gx : ∀ i, i < xs.length → 0 ≤ xs.getD i 0 ∧ xs.getD i 0 ≤ 255 := fun i hi => by
    rw [List.getD_eq_getElem?_getD, List.getElem?_eq_getElem hi]; exact hx _ (List.getElem_mem hi)
  have gy : ∀ i, i < xs.length → 0 ≤ ys.getD i 0 ∧ ys.getD i 0 ≤ 255 := fun i hi => by
    rw [List.getD_eq_getElem?_getD, List.getElem?_eq_getElem (h ▸ hi)]; exact hy _ (List.getElem_mem _)
  have h1 := run_xor xs ys (mix xs ys xs.length) (~~~0#32) (~~~0#32) h (mix_length _ _ _) fun i hi => by
    rw [mix_getD _ _ _ _ hi, if_pos hi]; exact (byte_xor _ _ (gx i hi) (gy i hi)).1
  rw [← h1]
  have h2 := run_xor (mix xs ys xs.length) (List.replicate xs.length 0) (mix xs ys xs.length) (~~~0#32 ^^^ ~~~0#32) (~~~0#32) (by simp [mix_length]) rfl fun i hi => by
    have : (List.replicate xs.length (0 : Int)).getD i 0 = 0 := by
      rw [List.getD_eq_getElem?_getD, List.getElem?_replicate]; split <;> rfl
    rw [this]; simp
  rw [← h2]
  rfl

end Go.Proofs.YtkmocipdekogkaaGreatDoor
end
section
namespace Go.Proofs.YtkmocipdekogkaaGreatDoor
set_option linter.unusedVariables false
set_option linter.unusedSimpArgs false
open Go.RowKit

theorem ret_int {k : IntKind} {a b : Int} (h : a = b) : Ending.returned (.int k a) = .returned (.int k b) := by rw [h]

set_option maxHeartbeats 400000 in
theorem steps_any (n : Nat) (x : Int) (w : World) (hn : n < 1000000) :
    Calls Tryz.prog 391 #[.int .u32 x, .int .i64 n] w fun e w' => e = .returned (.int .u32 (stepsI n x)) ∧ w = w' := by
  go_enter Tryz.func391, Tryz.ntmps391
  go_wp2
  go_loop [0, 6] (fun r i => ∃ k : Nat, k ≤ n ∧ i = .int .i64 k ∧ r = .int .u32 (stepsI k x)) (fun _ i => n - (intOf i).toNat)
  case atStart => exact ⟨0, Nat.zero_le _, rfl, rfl⟩
  case round =>
    obtain ⟨k, hk, rfl, rfl⟩ := hrel
    go_wp2
    · go_round
      case rel => exact ⟨k + 1, by omega, by go_num, by rw [stepsI_snoc]; rfl⟩
      case measure => simp [intOf]; omega
    · go_ret
      exact ⟨ret_int (by rw [show k = n by omega]), rfl⟩

/-- A slice's elements, as bytes at their cells. -/
def Rd (w : World) (a : Option Addr) (xs : List Int) : Prop :=
  xs = [] ∨ ∃ b off, a = some ⟨b, off, none⟩ ∧ ∀ i, i < xs.length → w.cell? ⟨b, off + i, none⟩ = some (.int .u8 (xs.getD i 0))

theorem take_succ_run (r : BitVec 32) (xs : List Int) (k : Nat) (h : k < xs.length) :
    run r (xs.take (k + 1)) = upd (run r (xs.take k)) (xs[k]?.getD 0) := by
  unfold run
  rw [List.take_succ_eq_append_getElem h, List.foldl_append]
  simp [List.getElem?_eq_getElem h]

theorem notI_bv (r : BitVec 32) : bits .xor .u32 IntKind.u32.max (r.toNat : Int) = ((~~~r).toNat : Int) := by
  have h : IntKind.u32.max = 4294967295 := by decide
  rw [h, compl_bv]

theorem upd_int (r : BitVec 32) (x : Int) : stepsI 8 (bits .xor .u32 (r.toNat : Int) x) = ((upd r x).toNat : Int) := by
  rw [bits_xor_int, stepsI_bv]; rfl

set_option maxHeartbeats 400000 in
theorem more_any (s : BitVec 32) (a : Option Addr) (xs : List Int) (cap : Nat) (w : World) (hr : Rd w a xs) (hl : xs.length ≤ 9223372036854775807) (hb : ∀ x ∈ xs, 0 ≤ x ∧ x ≤ 255) :
    Calls Tryz.prog 382 #[.int .u32 (s.toNat : Int), .slice a xs.length cap] w fun e w' => e = .returned (.int .u32 ((more s xs).toNat : Int)) ∧ w = w' := by
  generalize hv : (s.toNat : Int) = sv
  have HV := hidden hv; clear hv
  go_enter Tryz.func382, Tryz.ntmps382
  go_wp2
  go_loop [5, 12] (fun r i => ∃ k : Nat, k ≤ xs.length ∧ i = .int .i64 k ∧ r = .int .u32 ((run (~~~s) (xs.take k)).toNat : Int)) (fun _ i => xs.length - (intOf i).toNat)
  case atStart => exact ⟨0, Nat.zero_le _, rfl, by rw [← HV.out, notI_bv]; rfl⟩
  case round =>
    obtain ⟨k, hk, rfl, rfl⟩ := hrel
    by_cases hlt : k < xs.length
    · rcases hr with rfl | ⟨b, off, rfl, hc⟩
      · simp at hlt
      · have hcell := hc k hlt
        clear hc
        go_wp2_with (go_at_call 391; refine (steps_any 8 _ _ (by omega)).mono ?_; rintro e w' ⟨rfl, rfl⟩)
        go_round
        case rel =>
          have hx := hb xs[k] (List.getElem_mem hlt)
          exact ⟨k + 1, by omega, by go_num, by rw [Int.emod_eq_of_lt (by omega) (by omega), upd_int, take_succ_run _ _ _ hlt, List.getElem?_eq_getElem hlt]; rfl⟩
        case measure => simp [intOf]; omega
    · go_wp2
      go_ret
      exact ⟨ret_int (by rw [show k = xs.length by omega, List.take_length, notI_bv]; rfl), rfl⟩

set_option maxHeartbeats 400000 in
theorem sum_any (a : Option Addr) (xs : List Int) (cap : Nat) (w : World) (hr : Rd w a xs) (hl : xs.length ≤ 9223372036854775807) (hb : ∀ x ∈ xs, 0 ≤ x ∧ x ≤ 255) :
    Calls Tryz.prog 348 #[.slice a xs.length cap] w fun e w' => e = .returned (.int .u32 ((more 0#32 xs).toNat : Int)) ∧ w = w' := by
  go_enter Tryz.func348, Tryz.ntmps348
  go_wp2_with (go_at_call 382; refine (more_any 0#32 a xs cap w hr hl hb).mono ?_; rintro e w' ⟨rfl, rfl⟩)
  go_ret
  exact ⟨rfl, rfl⟩

end Go.Proofs.YtkmocipdekogkaaGreatDoor
end
section
namespace Go.Proofs.YtkmocipdekogkaaGreatDoor
set_option linter.unusedVariables false
set_option linter.unusedSimpArgs false
open Go.RowKit

def u64s (n c : Int) : Int := bits .or .u64 (IntKind.u64.wrap (n * 256)) c
def u64k (xs : List Int) (k : Nat) : Int := (xs.take k).foldl u64s 0
theorem u64k_succ (xs : List Int) (k : Nat) (h : k < xs.length) : u64k xs (k + 1) = u64s (u64k xs k) (xs.getD k 0) := by
  unfold u64k
  rw [List.take_succ_eq_append_getElem h, List.foldl_append, List.getD_eq_getElem?_getD, List.getElem?_eq_getElem h]; rfl

set_option maxRecDepth 100000 in
set_option maxHeartbeats 2000000 in
theorem u64_any (b off : Nat) (xs : List Int) (len cap : Nat) (w : World) (hl : xs.length = len) (h8 : 8 ≤ len) (hc : len ≤ cap)
    (hr : ∀ i, i < 8 → w.cell? ⟨b, off + i, none⟩ = some (.int .u8 (xs.getD i 0))) (hb : ∀ x ∈ xs, 0 ≤ x ∧ x ≤ 255) :
    Calls Tryz.prog 141 #[.slice (some ⟨b, off, none⟩) len cap] w fun e w' => e = .returned (.int .u64 (u64k xs 8)) ∧ w = w' := by
  have q0 : (8 : Int) ≤ (cap : Int) := by omega
  have q1 : 8 ≤ cap := by omega
  have HL := hidden hl
  have HB := hidden hb
  have HR := hidden hr
  clear hl hb hr
  go_enter Tryz.func141, Tryz.ntmps141
  go_wp2_with fail
  go_loop [2, 8] (fun r i => ∃ k : Nat, k ≤ 8 ∧ i = .int .i64 k ∧ r = .int .u64 (u64k xs k)) (fun _ i => 8 - (intOf i).toNat)
  case atStart => exact ⟨0, Nat.zero_le _, rfl, rfl⟩
  case round =>
    obtain ⟨k, hk, rfl, rfl⟩ := hrel
    by_cases hlt : k < 8
    · have hcell := HR.out k hlt
      have hS := hidden (u64k_succ xs k (by have := HL.out; omega))
      have hx : 0 ≤ xs.getD k 0 ∧ xs.getD k 0 ≤ 255 := by
        rw [List.getD_eq_getElem?_getD, List.getElem?_eq_getElem (by have := HL.out; omega)]
        exact HB.out _ (List.getElem_mem _)
      obtain ⟨x0, x1⟩ := hx
      generalize xs.getD k 0 = x at *
      go_wp2_with fail
      go_round
      case rel => exact ⟨k + 1, by omega, by go_num, by rw [hS.out]; rfl⟩
      case measure => simp [intOf]; omega
    · obtain rfl : k = 8 := by omega
      go_wp2_with fail
      go_ret
      exact ⟨rfl, rfl⟩
end Go.Proofs.YtkmocipdekogkaaGreatDoor
end
