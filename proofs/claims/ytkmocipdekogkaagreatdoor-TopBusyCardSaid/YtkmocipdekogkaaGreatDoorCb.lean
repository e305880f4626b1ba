/-
  What may stand there behind a calm's sixth round; the calm of a form, by its runs.
-/
import Derived.Test.YtkmocipdekogkaaGreatDoorPw
import Derived.Test.YtkmocipdekogkaaGreatDoorIw
set_option linter.all false
namespace Go.Proofs.YtkmocipdekogkaaGreatDoor
set_option linter.unusedVariables false
set_option linter.unusedSimpArgs false
noncomputable section
noncomputable def vOf (t c : Nat) : List (Nat × AO) := match t with
  | 0 => vL00
  | 1 => (match c with | 0 => vL10 | _ => vL11)
  | _ => (match c with | 0 => vL20 | 1 => vL21 | _ => vL22)
noncomputable def wOf (t c : Nat) : St := match t with
  | 0 => wS00
  | 1 => (match c with | 0 => wS10 | _ => wS11)
  | _ => (match c with | 0 => wS20 | 1 => wS21 | _ => wS22)
theorem vw_piece (t c : Nat) : PieceT 6 24 (mkS 70 (vOf t c)) (wOf t c) := by
  unfold vOf wOf
  split
  · exact pieceT_run pw00
  · split
    · exact pieceT_run pw10
    · exact pieceT_run pw11
  · split
    · exact pieceT_run pw20
    · exact pieceT_run pw21
    · exact pieceT_run pw22
noncomputable def Sc.cnt (κ : Sc) (c : Bool) : Nat := (bif c then κ.σ.b else κ.σ.a).1
noncomputable def Sc.id (κ : Sc) (c : Bool) (m : Nat) : AV := .sym (bif c then 2 else 1) (idN (bif c then κ.ob else κ.oa) m)
noncomputable def spE (κ : Sc) (c : Bool) : List (AV × AV × Nat) := match κ.cnt c with
  | 1 => [(κ.id c 0, .agg (κ.slot c 0), 0)]
  | _ => [(κ.id c 0, .agg (κ.slot c 0), 0), (κ.id c 1, .agg (κ.slot c 1), 1)]
noncomputable def keptE (κ : Sc) : List Bool → Nat → List (AV × AV × Nat)
  | [], _ => []
  | c :: r, i => (κ.σ.key c, pP (Nat.add 40 (Nat.mul 2 i)), i) :: keptE κ r (Nat.add i 1)
noncomputable def keptO (κ : Sc) : List Bool → Nat → List (Nat × AO)
  | [], _ => []
  | c :: r, i => (Nat.add 40 (Nat.mul 2 i), oR 3 [.mp (Nat.add 41 (Nat.mul 2 i)), nU 1, nU 1]) :: (Nat.add 41 (Nat.mul 2 i), .map (spE κ c) (κ.cnt c)) :: keptO κ r (Nat.add i 1)
noncomputable def storeL (κ : Sc) (ks : List Bool) : List (Nat × AO) :=
  [(1, .map [((nU 101), (pP 5), 0), ((nU 200), (pP 11), 1)] 2), (11, oR 4 [.nilp, (pP 14), (pP 10), .nils]), (13, .map (keptE κ ks 0) ks.length), (14, oR 4 [(pP 10), (pP 12), (.mp 13), fF])] ++ keptO κ ks 0
noncomputable def candOf (κ : Sc) (ks : List Bool) : Cand := { n := 70, l := vOf κ.σ.t ks.length ++ storeL κ ks, V := mkS 70 (vOf κ.σ.t ks.length), W := wOf κ.σ.t ks.length }
noncomputable def keptsOf (κ : Sc) : List (List Bool) := match κ.σ.t with
  | 0 => [[]]
  | 1 => [[], [false]]
  | _ => bif κ.σ.lt then [[], [false], [true], [false, true]] else [[], [false], [true], [true, false]]
noncomputable def candsOf (κ : Sc) : List Cand := (keptsOf κ).map (candOf κ)
theorem cands_piece (κ : Sc) : ∀ c ∈ candsOf κ, PieceT 6 24 c.V c.W := by
  intro c hc
  obtain ⟨ks, _, rfl⟩ := List.mem_map.1 hc
  exact vw_piece _ _
noncomputable def sIof (σ : Sh) : St := match σ.t with
  | 0 => sI0
  | 1 => sI1
  | _ => bif σ.lt then sI2t else sI2f
noncomputable def calmR (κ : Sc) : BD := calmD κ (idI κ.σ) (sIof κ.σ) (candsOf κ)
end
end Go.Proofs.YtkmocipdekogkaaGreatDoor
