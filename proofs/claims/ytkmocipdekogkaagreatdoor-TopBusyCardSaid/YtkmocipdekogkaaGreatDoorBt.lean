/-
  A round of the law's loop: a span's bytes are made, and handed to the fleet.
  What a slice of spans that came in is: its elements at their cells.
  A fleet is opened: one collector, one replica, two traces of two spans.
  The law's own walk: of no span, or of too many.
-/
import Derived.Test.YtkmocipdekogkaaGreatDoorAd
import Derived.Test.YtkmocipdekogkaaGreatDoorAr
import Derived.ProofKit
import Derived.Deep.SlicePairs
import Derived.Test.YtkmocipdekogkaaGreatDoorAg
set_option linter.all false
section
namespace Go.Proofs.YtkmocipdekogkaaGreatDoor
set_option linter.unusedVariables false
set_option linter.unusedSimpArgs false
set_option linter.unusedSectionVars false
open Go.RowKit

theorem raw_enc (t i p a l : Nat) (x y : ByteArray) (f : Bool) : ∃ bs : List Nat, spanB (spanV t i p a l x y f).toList = some bs ∧ bs.length = 43 + x.size + y.size ∧
    u8s (numsK [t, i, p, a, l] 5 ++ [((bif f then 1 else 0 : Nat) : Int)] ++ ((x.size : Int) :: strI x) ++ ((y.size : Int) :: strI y)) = bs.map fun b : Nat => Value.int .u8 b := by
  refine ⟨_, rfl, ?_, ?_⟩
  · have hx : x.data.toList.length = x.size := by rw [Array.length_toList]; rfl
    have hy : y.data.toList.length = y.size := by rw [Array.length_toList]; rfl
    simp only [List.length_append, List.length_cons, List.length_map, List.length_nil, eightB, hx, hy]
    omega
  · cases f <;> simp [u8s, numsK, eightI, strI, List.map_append, Function.comp_def]
theorem At1.more {σ : Sh} {E : Env} {w w' : World} {fl : Loc} {n : Nat} {T : List (List Value)} {K : Nat → Prop} (H : At1 σ E w fl n T K) (h : Below w.heap.size w w') : At1 σ E w' fl n T K :=
  ⟨H.mem, H.rel.more h.block, H.fresh, H.dom, H.base, H.at2, H.spans, H.apart⟩
theorem At1.away {σ : Sh} {E : Env} {w : World} {fl : Loc} {n : Nat} {T : List (List Value)} {K : Nat → Prop} (H : At1 σ E w fl n T K) : ∀ b o l, (shS σ).h.get b = some o → E b = some l → l.g < w.heap.size := fun b o l hb hE => (H.rel.obj b o l hb hE).lt
theorem do_raw {σ : Sh} {E : Env} {w w' : World} {fl : Loc} {n : Nat} {T : List (List Value)} {K : Nat → Prop} (H : At1 σ E w fl n T K) (hn : n + 1 ≤ baseMax) {t i p a l : Nat} {x y : ByteArray} {f : Bool} (ht : 0 < t ∧ t < 2 ^ 64) (hi : 0 < i ∧ i < 2 ^ 64) (hp : p < 2 ^ 64) (ha : a ≤ 2 ^ 40) (hl : l ≤ 2 ^ 40) (hx : NameOk x) (hy : NameOk y)
    (hK : ∀ q, K q → q < w.heap.size) (hb : Below w.heap.size w w') {v : Value} (hown : w'.ownsRow w.heap.size 5 1 v (43 + x.size + y.size) (u8s (numsK [t, i, p, a, l] 5 ++ [((bif f then 1 else 0 : Nat) : Int)] ++ ((x.size : Int) :: strI x) ++ ((y.size : Int) :: strI y)))) :
    Calls Tryz.prog 12 #[.pointer (some ⟨fl.g, fl.sh + 0, none⟩), opV v] w' (Done fl n T (spanV t i p a l x y f).toList K w') := by
  obtain ⟨bs, b1, b2, b3⟩ := raw_enc t i p a l x y f
  rw [b3] at hown
  obtain ⟨h1, h2⟩ := hown
  rcases h2 with ⟨_, h2⟩ | ⟨g, cap, cur, rfl, hg, hc, hle, _, hsz, htk⟩
  · omega
  · rw [← b2] at hle htk ⊢
    refine round_ok (H.more hb) hn ht hi hp ha hl hx hy b1 hc (by rw [Nat.mul_one] at htk; exact htk) hle (fun hk => ?_) (fun q hq => Nat.lt_of_lt_of_le (hK q hq) hb.size) (fun b o lb hb' hE hk => ?_)
    · have := hK g hk; omega
    · have := H.away b o lb hb' hE
      omega
end Go.Proofs.YtkmocipdekogkaaGreatDoor
end
section
namespace Go.Proofs.YtkmocipdekogkaaGreatDoor
set_option linter.unusedVariables false
set_option linter.unusedSimpArgs false
open Go.RowKit Go.ChangeShapes Go.WideShapes Go.ChangeAt

/-- A span. -/
structure Sp where
  t : Nat
  i : Nat
  p : Nat
  a : Nat
  l : Nat
  x : ByteArray
  y : ByteArray
  f : Bool
def Sp.vs (s : Sp) : List Value := (spanV s.t s.i s.p s.a s.l s.x s.y s.f).toList
def Sp.Fit (s : Sp) : Prop := s.t < 2 ^ 64 ∧ s.i < 2 ^ 64 ∧ s.p < 2 ^ 64 ∧ s.a < 2 ^ 64 ∧ s.l < 2 ^ 64
/-- A slice's elements at their cells. -/
def RdS (w : World) (a : Option Addr) (L : List Sp) : Prop :=
  L = [] ∨ ∃ b off, a = some ⟨b, off, none⟩ ∧ ∀ k s, L[k]? = some s → ∀ j v, s.vs[j]? = some v → w.cell? ⟨b, off + k * 8 + j, none⟩ = some v
theorem cells36 : Tryz.prog.cellsOf 36 = 8 := by kernel_rfl
theorem cells24 : Tryz.prog.cellsOf 24 = 1 := by kernel_rfl
theorem cells9 : Tryz.prog.cellsOf 9 = 1 := by kernel_rfl
theorem cells4 : Tryz.prog.cellsOf 4 = 1 := by kernel_rfl
set_option maxRecDepth 100000 in
theorem open_span {H : Type} {enc : TypeId × Value → H} {w : World} {spare : Nat → Bool} {held : Bool} {n : Nat} {cs : List Value} {x : DataW H × List MemPlace} (h : DataW.trod enc Tryz.prog w 0 spare held n 36 cs = some x) : ∃ s : Sp, s.Fit ∧ cs = s.vs := by
  obtain ⟨xs, m, _, _, hl, hxl, hf⟩ := DataW.trod_struct Tryz.underlying36 h
  rw [cells36] at hl
  match cs, hl with
  | [v0, v1, v2, v3, v4, v5, v6, v7], _ =>
    match xs, hxl with
    | [y0, y1, y2, y3, y4, y5, y6, y7], _ =>
      have g0 := hf 0 _ rfl
      have g1 := hf 1 _ rfl
      have g2 := hf 2 _ rfl
      have g3 := hf 3 _ rfl
      have g4 := hf 4 _ rfl
      have g5 := hf 5 _ rfl
      have g6 := hf 6 _ rfl
      have g7 := hf 7 _ rfl
      simp only [cells24, cells9, cells4, List.drop, List.take, List.getElem?_cons_zero, List.getElem?_cons_succ] at g0 g1 g2 g3 g4 g5 g6 g7
      obtain ⟨t, e0, _, w0⟩ := DataW.trod_int Tryz.underlying24 g0
      obtain ⟨i, e1, _, w1⟩ := DataW.trod_int Tryz.underlying24 g1
      obtain ⟨p, e2, _, w2⟩ := DataW.trod_int Tryz.underlying24 g2
      obtain ⟨a, e3, _, w3⟩ := DataW.trod_int Tryz.underlying24 g3
      obtain ⟨l, e4, _, w4⟩ := DataW.trod_int Tryz.underlying24 g4
      obtain ⟨x, e5, _, _⟩ := DataW.trod_string Tryz.underlying9 g5
      obtain ⟨y, e6, _, _⟩ := DataW.trod_string Tryz.underlying9 g6
      obtain ⟨f, e7, _⟩ := DataW.trod_bool Tryz.underlying4 g7
      cases e0
      cases e1
      cases e2
      cases e3
      cases e4
      cases e5
      cases e6
      cases e7
      simp [Lit.wf, IntKind.min, IntKind.max, IntKind.signed, IntKind.bits] at w0 w1 w2 w3 w4
      obtain ⟨t, rfl⟩ := Int.eq_ofNat_of_zero_le w0.1
      obtain ⟨i, rfl⟩ := Int.eq_ofNat_of_zero_le w1.1
      obtain ⟨p, rfl⟩ := Int.eq_ofNat_of_zero_le w2.1
      obtain ⟨a, rfl⟩ := Int.eq_ofNat_of_zero_le w3.1
      obtain ⟨l, rfl⟩ := Int.eq_ofNat_of_zero_le w4.1
      exact ⟨⟨t, i, p, a, l, x, y, f⟩, ⟨by simp only; omega, by simp only; omega, by simp only; omega, by simp only; omega, by simp only; omega⟩, rfl⟩
theorem open_spans {H : Type} {enc : TypeId × Value → H} {w : World} {spare : Nat → Bool} {held : Bool} {a : Option Addr} {len cap : Nat} {d : DataW H} {p : List MemPlace}
    (h : DataW.Trod enc Tryz.prog w 0 spare held 22 (.slice a len cap) d p) : ∃ L : List Sp, L.length = len ∧ RdS w a L ∧ (∀ s ∈ L, s.Fit) ∧ len ≤ maxLen := by
  obtain ⟨fuel, hf⟩ := h
  rcases Deep.open_slice Tryz.underlying22 hf with ⟨hcs, _⟩ | ⟨x, l, c, m, n, D, Pl, hcs, _, hl, hm, hmm, _, hall⟩
  · simp [Value.cells] at hcs
    obtain ⟨rfl, rfl, rfl⟩ := hcs
    exact ⟨[], rfl, .inl rfl, by simp, Nat.zero_le _⟩
  · simp [Value.cells] at hcs
    obtain ⟨rfl, rfl, rfl⟩ := hcs
    have hlm : len ≤ m := by rw [hmm]; split <;> omega
    have each : ∀ i, i < len → ∃ s : Sp, s.Fit ∧ ∀ j v, s.vs[j]? = some v → w.cell? ((x.add (i * 8)).add j) = some v := by
      intro i hi
      obtain ⟨cs', h1, h2⟩ := hall i (by omega)
      rw [cells36] at h1
      obtain ⟨_, hlen, hcell⟩ := World.cells?_some h1
      obtain ⟨s, hs, rfl⟩ := open_span h2
      refine ⟨s, hs, fun j v hv => ?_⟩
      have hj : j < 8 := by
        rcases Nat.lt_or_ge j 8 with h | h
        · exact h
        · rw [List.getElem?_eq_none (by rw [hlen]; exact h)] at hv; cases hv
      rw [hcell j hj, hv]
    obtain ⟨f, hf⟩ : ∃ f : Nat → Sp, ∀ i, i < len → (f i).Fit ∧ ∀ j v, (f i).vs[j]? = some v → w.cell? ((x.add (i * 8)).add j) = some v :=
      ⟨fun i => if hi : i < len then Classical.choose (each i hi) else ⟨0, 0, 0, 0, 0, default, default, false⟩, fun i hi => by
        have := Classical.choose_spec (each i hi)
        simp only [dif_pos hi]
        exact this⟩
    refine ⟨(List.range len).map f, by simp, ?_, ?_, by omega⟩
    · by_cases h0 : len = 0
      · subst h0; exact .inl rfl
      · obtain ⟨b, off, spot⟩ := x
        have hq0 := (hf 0 (by omega)).2 0 _ rfl
        have hspot : spot = none := by simpa [Addr.add] using World.cell?_spot hq0
        subst hspot
        refine .inr ⟨b, off, rfl, fun k s hk j v hv => ?_⟩
        have hk' : k < len := by
          rcases Nat.lt_or_ge k len with h | h
          · exact h
          · rw [List.getElem?_eq_none (by simpa using h)] at hk; cases hk
        have e : s = f k := by
          rw [List.getElem?_map, List.getElem?_range hk'] at hk
          exact (Option.some.inj hk).symm
        subst e
        have := (hf k hk').2 j v hv
        rw [add_plain, add_plain] at this
        exact this
    · intro y hy
      simp only [List.mem_map, List.mem_range] at hy
      obtain ⟨i, hi, rfl⟩ := hy
      exact (hf i hi).1
end Go.Proofs.YtkmocipdekogkaaGreatDoor
end
section
namespace Go.Proofs.YtkmocipdekogkaaGreatDoor
set_option linter.unusedVariables false
set_option linter.unusedSimpArgs false
set_option linter.unusedSectionVars false
open Go.RowKit

noncomputable def st0 : St := { h := .e, nx := 0 }
def env0 : Env := { at' := fun _ => none, val := fun _ _ => none, base := 0 }
theorem env0_facts : Facts env0 := ⟨fun _ _ _ h => (by cases h), fun _ _ _ _ _ _ _ _ h => (by cases h), fun _ _ _ _ _ _ _ _ h => (by cases h), (by decide), fun _ _ h => (by cases h)⟩
theorem env0_rel (w : World) : Rel env0 st0 w ∧ Fresh env0 st0 := ⟨⟨fun b o l _ h => (by cases h), fun b c o o' l l' _ _ h => (by cases h), env0_facts⟩, fun _ _ => rfl⟩
theorem step0_below {E : Env} {s : St} {w w' : World} (S : Step env0 st0 w E s w') : Below w.heap.size w w' :=
  ⟨S.os, S.tape, S.output, S.size, fun k hk => S.frame k hk fun b o l _ h => by cases h⟩
theorem step0_own {E : Env} {s : St} {w w' : World} (S : Step env0 st0 w E s w') {b : Nat} {o : AO} {l : Loc} (h : s.h.get b = some o) (hE : E b = some l) : w.heap.size ≤ l.g := by
  rcases S.own b o l h hE with h | ⟨_, _, _, _, h, _⟩
  · exact h
  · cases h
noncomputable def cfgL (n : Nat) : List AV := [nI 1, nI 1, nI 3, nU 3, nU 12, nU 6, nU 3, nI n, nI n, nI 16, sStr, nI 1048576, nI 4096]
noncomputable def polB : ByteArray := ⟨⟨[107, 101, 101, 112, 32, 102, 97, 105, 108, 10, 107, 101, 101, 112, 32, 115, 108, 111, 119, 32, 53, 48].map UInt8.ofNat⟩⟩
noncomputable def cfgV (n : Nat) : List Value := [.int .i64 1, .int .i64 1, .int .i64 3, .int .u64 3, .int .u64 12, .int .u64 6, .int .u64 3, .int .i64 n, .int .i64 n, .int .i64 16, .string polB, .int .i64 1048576, .int .i64 4096]
theorem cfg_rls (E : Env) (n : Nat) : Rls E (cfgL n) (cfgV n) :=
  .cons (.int _ _) (.cons (.int _ _) (.cons (.int _ _) (.cons (.int _ _) (.cons (.int _ _) (.cons (.int _ _) (.cons (.int _ _) (.cons (.int _ _) (.cons (.int _ _) (.cons (.int _ _) (.cons (.str _) (.cons (.int _ _) (.cons (.int _ _) .nil))))))))))))
theorem rls_ground {E : Env} : ∀ {l : List AV} {r q : List Value}, (∀ a ∈ l, ∀ v u, Rl E a v → Rl E a u → v = u) → Rls E l r → Rls E l q → r = q
  | [], _, _, _, .nil, .nil => rfl
  | a :: l, _, _, h, .cons h1 h2, .cons k1 k2 => by
    rw [h a (List.mem_cons_self ..) _ _ h1 k1, rls_ground (fun b hb => h b (List.mem_cons_of_mem _ hb)) h2 k2]
theorem cfg_val {E : Env} {n : Nat} {v : Value} (h : Rl E (.agg (cfgL n)) v) : v = .agg (cfgV n).toArray := by
  cases h with | agg hl =>
  rw [rls_ground (fun a ha v u hv hu => ?_) hl (cfg_rls E n)]
  unfold cfgL at ha
  simp only [List.mem_cons, List.not_mem_nil, or_false] at ha
  rcases ha with rfl | rfl | rfl | rfl | rfl | rfl | rfl | rfl | rfl | rfl | rfl | rfl | rfl <;> cases hv <;> cases hu <;> rfl
noncomputable def plainB : Bool := callF tabF false andB (hookT false andB) 10000 100 8 [nI 1, nI 1] st0 (fun v _ => beqV v (.agg (cfgL 8)))
noncomputable def ownB : Bool := callF tabF false andB (hookT false andB) 10000 100 10 [.agg (cfgL 2)] st0 (fun v _ => beqV v (.agg (cfgL 2)))
noncomputable def sh0 : Sh := ⟨0, true, (1, false), (0, false)⟩
noncomputable def newK (v : AV) (s : St) : Bool := match v with
  | .tup [.ptr b 0, .int .i64 (.ofNat 0)] => matchL (shS sh0).h s.h 400 [(2, b)] [] (fun π => bif Nat.beq (asN π 2) b then wkS 0 (asN π) (idR []) ((shL sh0).map (·.1)) (shS sh0) s else false)
  | _ => false
noncomputable def newB : Bool := callF tabF false andB (hookT false andB) 10000 100 9 [.agg (cfgL 2)] st0 newK
theorem plain_run : plainB = true := by kernel_rfl
theorem own_run : ownB = true := by kernel_rfl
theorem new_run : newB = true := by kernel_rfl
theorem plain_at (w : World) : Calls Tryz.prog 8 #[.int .i64 1, .int .i64 1] w fun e w' => e = .returned (.agg (cfgV 8).toArray) ∧ Below w.heap.size w w' := by
  obtain ⟨R, F⟩ := env0_rel w
  refine ((callF_ok JB tabF_ok tabF_sub tabF_flat tabF_x (fl := false) (conj := andB) (by simp) andB_ok (hookT_ok JB (by simp) andB_ok) 10000 100).1 8 _ _ _ env0 w _ (by decide) plain_run R F (.cons (.int _ _) (.cons (.int _ _) .nil))).mono fun e w' he => ?_
  obtain ⟨v, s', E', v', rfl, hj, S, R', F', hv⟩ := he
  have := beqV_eq _ _ (show beqV v (.agg (cfgL 8)) = true from hj)
  subst this
  rw [cfg_val hv]
  exact ⟨rfl, step0_below S⟩
theorem own_at (w : World) : Calls Tryz.prog 10 #[.agg (cfgV 2).toArray] w fun e w' => e = .returned (.agg (cfgV 2).toArray) ∧ Below w.heap.size w w' := by
  obtain ⟨R, F⟩ := env0_rel w
  refine ((callF_ok JB tabF_ok tabF_sub tabF_flat tabF_x (fl := false) (conj := andB) (by simp) andB_ok (hookT_ok JB (by simp) andB_ok) 10000 100).1 10 _ _ _ env0 w _ (by decide) own_run R F (.cons (.agg (cfg_rls _ 2)) .nil)).mono fun e w' he => ?_
  obtain ⟨v, s', E', v', rfl, hj, S, R', F', hv⟩ := he
  have := beqV_eq _ _ (show beqV v (.agg (cfgL 2)) = true from hj)
  subst this
  rw [cfg_val hv]
  exact ⟨rfl, step0_below S⟩
theorem new_at (w : World) : Calls Tryz.prog 9 #[.agg (cfgV 2).toArray] w fun e w' => ∃ fl : Loc, e = .returned (.tuple #[.pointer (some ⟨fl.g, fl.sh + 0, none⟩), .int .i64 0]) ∧ (∃ σ E, At1 σ E w' fl 0 [] (fun q => q < w.heap.size)) ∧ Below w.heap.size w w' := by
  obtain ⟨R, F⟩ := env0_rel w
  refine ((callF_ok JB tabF_ok tabF_sub tabF_flat tabF_x (fl := false) (conj := andB) (by simp) andB_ok (hookT_ok JB (by simp) andB_ok) 10000 100).1 9 _ _ _ env0 w _ (by decide) new_run R F (.cons (.agg (cfg_rls _ 2)) .nil)).mono fun e w' he => ?_
  obtain ⟨v, s', E', v', rfl, hj, S, R', F', hv⟩ := he
  unfold newK at hj
  split at hj
  · rename_i b
    cases hv with | tup hl =>
    cases hl with | cons h1 hl =>
    cases hl with | cons h2 hl =>
    cases hl
    cases h2
    cases h1 with | ptr _ hE =>
    rename_i l
    obtain ⟨π, h3⟩ := matchL_some hj
    obtain ⟨h4, h5⟩ := bif_and h3
    have e2 := Nat.eq_of_beq_eq_true h4
    have hb : E'.base = 0 := S.le.2.2
    obtain ⟨k1, k2, k3⟩ := wk_rel (m := 38) (l := shL sh0) h5 (cutTo_wk E' 38 (asN π) [] 0) (cutTo_facts R'.facts (by rw [hb]; decide) (by simp)) R' F'
    refine ⟨l, rfl, ⟨sh0, _, by simp [shapes, sh0], k1, k2, fun c b v h => absurd (cutTo_in h).1 (by simp), ?_, ?_, fun c hc => ?_, fun b o lb hb hE hk => ?_⟩, step0_below S⟩
    · show E'.base + 0 = 0; rw [hb]
    · show (if 2 < 38 then E' (asN π 2) else none) = some l
      rw [if_pos (by omega), e2]; exact hE
    · simp [Sh.all, sh0] at hc
    · obtain ⟨b', o', q1, q2⟩ := k3 b o lb hb hE
      have := step0_own S q1 q2
      omega
  · cases hj
end Go.Proofs.YtkmocipdekogkaaGreatDoor
end
section
namespace Go.Proofs.YtkmocipdekogkaaGreatDoor
set_option linter.unusedVariables false
set_option linter.unusedSimpArgs false
open Go.RowKit
def AliveC : Prop := ∀ W : World, Calls Tryz.prog 7 #[] W fun e W' => e = .returned (.bool true) ∧ Below W.heap.size W W'
set_option maxRecDepth 100000 in
set_option maxHeartbeats 1000000 in
theorem busy_few (hA : AliveC) (n cap : Nat) (a : Option Addr) (w : World) (hl : n < 1 ∨ 12 < n) : Calls Tryz.prog 3 #[.slice a n cap] w fun e w' => e = .returned (.bool true) ∧ Below w.heap.size w w' := by
  unfold AliveC at hA
  by_cases h1 : n < 1
  · have d1 : decide ((n : Int) < 1) = true := by simp; omega
    clear hl
    go_enter Tryz.func3, Tryz.ntmps3
    go_wp2_with (first | (refine (hA _).mono ?_; rintro e w1 ⟨rfl, hb⟩))
    go_ret
    exact ⟨rfl, hb⟩
  · have d1 : decide ((n : Int) < 1) = false := by simp; omega
    have d2 : decide ((n : Int) > 12) = true := by simp; omega
    clear hl
    go_enter Tryz.func3, Tryz.ntmps3
    go_wp2_with (first | (refine (hA _).mono ?_; rintro e w1 ⟨rfl, hb⟩))
    go_ret
    exact ⟨rfl, hb⟩
end Go.Proofs.YtkmocipdekogkaaGreatDoor
end
