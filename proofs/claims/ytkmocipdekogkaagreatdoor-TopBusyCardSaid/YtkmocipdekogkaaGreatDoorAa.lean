/-
  The machine: it carries the program's code out over a memory of its own, in which an address is a number of its own making; all that the model draws (orders, capacities) is left open.
-/
import GoSem.Step
set_option linter.all false
namespace Go.Proofs.YtkmocipdekogkaaGreatDoor
set_option linter.unusedVariables false
noncomputable section

/-- A value of the machine. any: some value of one cell; bad: nothing is known. slz: an empty slice that is not nil, wherever it lies. sym: a value that is given from outside, by its class and number; anyi: some number of a kind; anyb: some truth; upto: a number from 0 to n (and the base beside); slu: a slice at the beginning of a row (or one that is empty, without room), of at most so many elements; sl0: an empty slice without room; yld: the function that a loop over a function hands on, by the loop's record. -/
inductive AV where
  | bool (b : Bool)
  | int (k : IntKind) (n : Int)
  | str (s : ByteArray)
  | nilp
  | ptr (b off : Nat)
  | nils
  | sl (b off len cap : Nat)
  | slo (b off len : Nat)
  | slz
  | nilm
  | mp (b : Nat)
  | fn (f : Fn) (first cap : List AV)
  | nilf
  | ifc (t : TypeId) (v : AV)
  | nili
  | agg (l : List AV)
  | tup (l : List AV)
  | any
  | bad
  | sym (c b : Nat)
  | anyi (k : IntKind)
  | anyb
  | upto (g : Bool) (n : Nat)
  | slu (b sz : Nat) (g : Bool) (n : Nat)
  | sl0
  | yld (b : Nat)

def absS : Value → AV
  | .bool b => .bool b
  | .int k n => .int k n
  | .string s => .str s
  | .pointer none => .nilp
  | .slice none 0 0 => .nils
  | .map none => .nilm
  | .func f ⟨[]⟩ ⟨[]⟩ => .fn f [] []
  | .nilFunc => .nilf
  | .nilIface => .nili
  | _ => .bad
def absV : Value → AV
  | .agg cs => .agg (cs.toList.map absS)
  | .tuple ⟨[]⟩ => .tup []
  | v => absS v

inductive Tr (α : Type) where
  | e
  | n (v : Option α) (l r : Tr α)
/-- The first or the second, by a test. -/
@[reducible] def sel {α : Type} (c : Bool) (a b : α) : α := Bool.rec b a c
def Tr.get {α : Type} (t : Tr α) : Nat → Option α :=
  Tr.rec (fun _ => none) (fun v _ _ gl gr k => @Bool.rec (fun _ => Option α) (@Bool.rec (fun _ => Option α) (gr (Nat.sub (Nat.div k 2) 1)) (gl (Nat.div k 2)) (Nat.beq (Nat.mod k 2) 1)) v (Nat.beq k 0)) t
def Tr.sing {α : Type} (v : Option α) (f : Nat) : Nat → Tr α :=
  Nat.rec (fun _ => .e) (fun _ ih k => sel (Nat.beq k 0) (.n v .e .e) (sel (Nat.beq (Nat.mod k 2) 1) (.n none (ih (Nat.div k 2)) .e) (.n none .e (ih (Nat.sub (Nat.div k 2) 1))))) f
def Tr.upd {α : Type} (v : Option α) (t : Tr α) : Nat → Tr α :=
  Tr.rec (fun k => Tr.sing v (Nat.add k 1) k) (fun u l r gl gr k => @Bool.rec (fun _ => Tr α) (@Bool.rec (fun _ => Tr α) (.n u l (gr (Nat.sub (Nat.div k 2) 1))) (.n u (gl (Nat.div k 2)) r) (Nat.beq (Nat.mod k 2) 1)) (.n v l r) (Nat.beq k 0)) t
def Tr.set {α : Type} (t : Tr α) (k : Nat) (v : α) : Tr α := Tr.upd (some v) t k
def Tr.del {α : Type} (t : Tr α) (k : Nat) : Tr α := Tr.upd none t k

inductive AO where
  | row (cs : List AV) (sz : Nat)
  | map (es : List (AV × AV × Nat)) (clock : Nat)
  | iter (m : Option Nat) (since : Nat) (seen : List Nat) (last : Nat)
  | sit (s : ByteArray) (pos : Nat)
  | junk (u : Bool) (sz : Nat)
  | loop (A B : Code) (ps : List Nat) (nt : Nat) (t : List (Nat × AV))
  | enc (k : Nat) (cs : List AV)

/-- The kind of a cell that may be compared. -/
inductive Kd | b | i | s
structure TI where
  desc : TypeDesc
  size : Nat
  bytes : Nat
  zero : AV
def mkTI (u i : TypeInfo) : TI := { desc := u.desc, size := i.size, bytes := i.bytes, zero := match i.zero with | some v => absV v | none => .bad }
/-- One step of a region that draws its order: the operation's number; what it is (0 it leaves the memory, 1 it makes an object, 2 else); what it looks at; which of those before it may still be to come. -/
structure PS where
  i : Nat
  c : Nat
  see : List Nat
  rc : List (Nat × Nat × List Nat)
abbrev Plans := Nat → Option (List PS)
structure Tab where
  func : Nat → Option Func
  ti : Nat → Option TI
  flat : Nat → Option (List Kd)
  meth : Nat → String → Option (Nat × Bool)
  mask : Nat → Nat
  plan : Nat → Plans
  ext : Nat → Option (List AV → Option AV)
structure St where
  h : Tr AO
  nx : Nat

def AV.one : AV → Bool
  | .agg _ => false | .tup _ => false | .bad => false
  | _ => true
def allOne : List AV → Bool
  | [] => true
  | a :: r => bif a.one then allOne r else false
def AV.cells : AV → Option (List AV)
  | .agg l => some l
  | .tup _ => none
  | .bad => none
  | v => some [v]
def isAggD : TypeDesc → Bool | .struct _ => true | .array _ _ => true | _ => false
def Tab.desc (T : Tab) (t : Nat) : Option TypeDesc := match T.ti t with | some i => some i.desc | none => none
def Tab.size (T : Tab) (t : Nat) : Nat := match T.ti t with | some i => i.size | none => 0

def lenL {α : Type} : List α → Nat | [] => 0 | _ :: r => lenL r + 1
def takeL : Nat → List AV → List AV | 0, _ => [] | _, [] => [] | n + 1, a :: r => a :: takeL n r
def dropL : Nat → List AV → List AV | 0, l => l | _, [] => [] | n + 1, _ :: r => dropL n r
def atL {α : Type} : Nat → List α → Option α | _, [] => none | 0, a :: _ => some a | n + 1, _ :: r => atL n r
def cutL (off n : Nat) (l : List AV) : List AV := takeL n (dropL off l)
def splice : List AV → Nat → List AV → List AV
  | _ :: r, 0, y :: ys => y :: splice r 0 ys
  | x :: r, n + 1, ys => x :: splice r n ys
  | l, _, _ => l
def repL (z : List AV) : Nat → List AV | 0 => [] | n + 1 => z ++ repL z n

def St.rowAt (s : St) (b : Nat) : Option (List AV × Nat) := match s.h.get b with | some (.row cs sz) => some (cs, sz) | _ => none
def St.new (s : St) (o : AO) : St := { h := s.h.set s.nx o, nx := s.nx + 1 }
def St.setO (s : St) (b : Nat) (o : AO) : St := { h := s.h.set b o, nx := s.nx }
def newRow (s : St) (cs : Option (List AV)) (sz : Nat) : Option St := match cs with | some cs => bif allOne cs then some (s.new (.row cs sz)) else none | none => none

def oLoad (T : Tab) (s : St) (t : Nat) (v : AV) : Option AV :=
  match T.ti t, v with
  | some i, .ptr b off =>
    match s.rowAt b with
    | some (cs, _) => bif isAggD i.desc then (bif Nat.ble (off + i.size) (lenL cs) then some (.agg (cutL off i.size cs)) else none) else atL off cs
    | none => none
  | _, _ => none
def storeC (s : St) (b off : Nat) (vs : List AV) : Option St :=
  match s.rowAt b with
  | some (cs, sz) => bif Nat.ble (off + lenL vs) (lenL cs) then (bif allOne vs then some (s.setO b (.row (splice cs off vs) sz)) else none) else none
  | none => none
def oStore (T : Tab) (s : St) (t : Nat) (a x : AV) : Option St :=
  match T.ti t, a, x.cells with
  | some i, .ptr b off, some vs => bif Nat.beq (lenL vs) i.size then storeC s b off vs else none
  | _, _, _ => none

def eqI (a b : Int) : Bool := match a, b with
  | .ofNat m, .ofNat n => Nat.beq m n
  | a, b => decide (a = b)
def kindEq : IntKind → IntKind → Bool
  | .i8, .i8 => true | .i16, .i16 => true | .i32, .i32 => true | .i64, .i64 => true | .u8, .u8 => true | .u16, .u16 => true | .u32, .u32 => true | .u64, .u64 => true
  | _, _ => false
/-- Numbers from outside whose order is known: classes 0 to 2, numbers 0 to 7. -/
def ordC (c i j : Nat) : Bool := bif Nat.ble c 2 then (bif Nat.ble i 7 then Nat.ble j 7 else false) else false
/-- Numbers from outside that are not the same: classes 0 to 2, numbers 0 to 15. -/
def neC (c i j : Nat) : Bool := bif Nat.ble c 2 then (bif Nat.ble i 15 then Nat.ble j 15 else false) else false
/-- Equality of numbers, texts and truths alone. -/
def eqN : AV → AV → Option Bool
  | .bool a, .bool b => some (a == b)
  | .int j a, .int k b => bif kindEq j k then some (eqI a b) else none
  | .str a, .str b => some (a.data.toList == b.data.toList)
  | .sym c i, .sym d j => bif Nat.beq c d then (bif Nat.beq i j then (bif Nat.ble c 6 then some true else none) else bif neC c i j then some false else none) else none
  | .sym c _, .int .u64 n => bif Nat.ble c 2 then (bif eqI n 0 then some false else none) else none
  | .int .u64 n, .sym c _ => bif Nat.ble c 2 then (bif eqI n 0 then some false else none) else none
  | _, _ => none
/-- A value's kind. -/
def isKd : Kd → AV → Bool
  | .b, .bool _ => true
  | .i, .int _ _ => true
  | .s, .str _ => true
  | .i, .sym c _ => Nat.ble c 4
  | .s, .sym c _ => Nat.beq c 5
  | .b, .sym c _ => Nat.beq c 6
  | _, _ => false
def kdOk (k : Kd) (x y : AV) : Bool := bif isKd k x then isKd k y else false
/-- A value's kind, where nothing is known but that. -/
def isKu : Kd → AV → Bool
  | .b, .anyb => true
  | .i, .anyi _ => true
  | .i, .upto _ _ => true
  | k, x => isKd k x
def eqLK : List Kd → List AV → List AV → Option Bool
  | [], _, _ => some true
  | k :: ks, x :: xs, y :: ys => bif kdOk k x y then (match eqN x y with | some true => eqLK ks xs ys | some false => some false | none => none) else none
  | _, _, _ => none
/-- 2 to the number of a kind's bits. -/
def pw : IntKind → Nat
  | .i8 => 256 | .u8 => 256 | .i16 => 65536 | .u16 => 65536 | .i32 => 4294967296 | .u32 => 4294967296 | .i64 => 18446744073709551616 | .u64 => 18446744073709551616
/-- A number that is not negative, as one of a kind. -/
def norm : IntKind → Nat → Int
  | .u8, r => .ofNat (Nat.mod r 256)
  | .u16, r => .ofNat (Nat.mod r 65536)
  | .u32, r => .ofNat (Nat.mod r 4294967296)
  | .u64, r => .ofNat (Nat.mod r 18446744073709551616)
  | .i64, r => sel (Nat.ble r 9223372036854775807) (.ofNat r) (IntKind.wrap .i64 (.ofNat r))
  | k, r => IntKind.wrap k (.ofNat r)
abbrev IntF := IntKind → Int → Int → Option AV
def iAdd : IntF := fun k a b => match a, b with
  | .ofNat m, .ofNat n => some (.int k (norm k (Nat.add m n)))
  | a, b => some (.int k (k.wrap (a + b)))
def iSub : IntF := fun k a b => match a, b with
  | .ofNat m, .ofNat n => sel (Nat.ble n m) (some (.int k (norm k (Nat.sub m n)))) (some (.int k (k.wrap (.ofNat m - .ofNat n))))
  | a, b => some (.int k (k.wrap (a - b)))
def iMul : IntF := fun k a b => match a, b with
  | .ofNat m, .ofNat n => some (.int k (norm k (Nat.mul m n)))
  | a, b => some (.int k (k.wrap (a * b)))
def iQuo : IntF := fun k a b => match a, b with
  | .ofNat m, .ofNat n => sel (Nat.beq n 0) none (some (.int k (norm k (Nat.div m n))))
  | a, b => bif eqI b 0 then none else some (.int k (k.wrap (Int.tdiv a b)))
def iRem : IntF := fun k a b => match a, b with
  | .ofNat m, .ofNat n => sel (Nat.beq n 0) none (some (.int k (.ofNat (Nat.mod m n))))
  | _, _ => none
def iAnd : IntF := fun k a b => match a, b with
  | .ofNat m, .ofNat n => some (.int k (norm k (Nat.mod (Nat.land m n) (pw k))))
  | _, _ => none
def iOr : IntF := fun k a b => match a, b with
  | .ofNat m, .ofNat n => some (.int k (norm k (Nat.mod (Nat.lor m n) (pw k))))
  | _, _ => none
def iXor : IntF := fun k a b => match a, b with
  | .ofNat m, .ofNat n => some (.int k (norm k (Nat.mod (Nat.xor m n) (pw k))))
  | _, _ => none
def bitsOf : IntKind → Nat
  | .i8 => 8 | .u8 => 8 | .i16 => 16 | .u16 => 16 | .i32 => 32 | .u32 => 32 | .i64 => 64 | .u64 => 64
def minN (a b : Nat) : Nat := sel (Nat.ble a b) a b
def iShl : IntF := fun k a b => match a, b with
  | .ofNat m, .ofNat n => some (.int k (norm k (Nat.mul m (Nat.pow 2 (minN n (bitsOf k))))))
  | _, _ => none
def iShr : IntF := fun k a b => match a, b with
  | .ofNat m, .ofNat n => some (.int k (.ofNat (Nat.div m (Nat.pow 2 (minN n (bitsOf k))))))
  | _, _ => none
def iLss : IntF := fun _ a b => match a, b with
  | .ofNat m, .ofNat n => some (.bool (Nat.ble (Nat.succ m) n))
  | a, b => some (.bool (decide (a < b)))
def iLeq : IntF := fun _ a b => match a, b with
  | .ofNat m, .ofNat n => some (.bool (Nat.ble m n))
  | a, b => some (.bool (decide (a ≤ b)))
def iNone : IntF := fun _ _ _ => none
def flipI (f : IntF) : IntF := fun k a b => f k b a
def intF (op : BinOp) : IntF := match op with
  | .add => iAdd | .sub => iSub | .mul => iMul | .quo => iQuo | .rem => iRem
  | .and => iAnd | .or => iOr | .xor => iXor | .shl => iShl | .shr => iShr
  | .lss => iLss | .leq => iLeq | .gtr => flipI iLss | .geq => flipI iLeq
  | _ => iNone
/-- Of kinds that may differ: shifts alone. -/
def isShift : BinOp → Bool | .shl => true | .shr => true | _ => false
abbrev EqF := AV → AV → Option Bool
def qPtr : EqF
  | .nilp, .nilp => some true
  | .nilp, .ptr _ _ => some false
  | .ptr _ _, .nilp => some false
  | _, _ => none
def qSl : EqF
  | .nils, .nils => some true
  | .nils, .sl .. => some false
  | .sl .., .nils => some false
  | .nils, .slo .. => some false
  | .slo .., .nils => some false
  | .nils, .slz => some false
  | .slz, .nils => some false
  | _, _ => none
def qMap : EqF
  | .nilm, .nilm => some true
  | .nilm, .mp _ => some false
  | .mp _, .nilm => some false
  | _, _ => none
def qFn : EqF
  | .nilf, .nilf => some true
  | .nilf, .fn .. => some false
  | .fn .., .nilf => some false
  | _, _ => none
def qIf : EqF
  | .nili, .ifc .. => some false
  | .ifc .., .nili => some false
  | _, _ => none
def qAgg (ok : Option (List Kd)) : EqF
  | .agg a, .agg b => match ok with | some ks => eqLK ks a b | none => none
  | _, _ => none
def qKd (k : Kd) : EqF := fun x y => bif kdOk k x y then eqN x y else none
def qNone : EqF := fun _ _ => none
def eqF (T : Tab) (t : Nat) : Option TypeDesc → EqF
  | some .bool => qKd .b
  | some (.int _) => qKd .i
  | some .string => qKd .s
  | some (.pointer _) => qPtr
  | some (.slice _) => qSl
  | some (.map _ _) => qMap
  | some (.func _ _ _) => qFn
  | some (.interface _) => qIf
  | some (.struct _) => qAgg (T.flat t)
  | _ => qNone
def oEq (T : Tab) (t : Nat) (x y : AV) : Option Bool := eqF T t (T.desc t) x y
/-- The kinds of the cells of a struct whose cells are numbers, texts and truths, one behind the other. -/
def flatFs (T : Tab) (chk : Nat → Option (List Kd)) : List Field → Nat → Option (List Kd)
  | [], _ => some []
  | f :: r, off => bif decide (f.name = "_") then none else bif Nat.beq f.offset off then (match chk f.type, flatFs T chk r (off + T.size f.type) with
    | some a, some b => bif Nat.beq (lenL a) (T.size f.type) then some (a ++ b) else none
    | _, _ => none) else none
def flatD (T : Tab) (d : Nat) : Nat → Option (List Kd) := Nat.rec (fun _ => none) (fun _ ih t => match T.ti t with
  | some i => match i.desc with
    | .bool => bif Nat.beq i.size 1 then some [.b] else none
    | .int _ => bif Nat.beq i.size 1 then some [.i] else none
    | .string => bif Nat.beq i.size 1 then some [.s] else none
    | .struct fs => match T.flat t with | some _ => flatFs T ih fs.toList 0 | none => none
    | _ => none
  | none => none) d
/-- The kind of a number. -/
def numK : AV → Option IntKind
  | .int k _ => some k
  | .sym c _ => bif Nat.ble c 4 then some .u64 else none
  | .anyi k => some k
  | .upto _ _ => some .i64
  | _ => none
def unkEq (T : Tab) (d : Option TypeDesc) (x y : AV) : Option AV := match d with
  | some .bool => bif isKu .b x then (bif isKu .b y then some .anyb else none) else none
  | some .string => bif isKu .s x then (bif isKu .s y then some .anyb else none) else none
  | some (.int _) => match numK x, numK y with
    | some k, some l => bif kindEq k l then some .anyb else none
    | _, _ => none
  | some (.slice _) => match x, y with
    | .slu .., .nils => some .anyb
    | _, _ => none
  | _ => none
def boolO (o : Option AV) : Option Bool → Option AV | some b => some (.bool b) | none => o
def notO (o : Option AV) : Option Bool → Option AV | some b => some (.bool (Bool.not b)) | none => o
abbrev BinF := Tab → Nat → AV → AV → Option AV
def bEq : BinF := fun T t x y => boolO (unkEq T (T.desc t) x y) (oEq T t x y)
def bNeq : BinF := fun T t x y => notO (unkEq T (T.desc t) x y) (oEq T t x y)
/-- More than any base. -/
def baseMax : Nat := 50000
def ubMax (g : Bool) (n : Nat) : Nat := bif g then n + baseMax else n
def natCmp : BinOp → Nat → Nat → Option Bool
  | .lss, i, j => some (Nat.ble (i + 1) j)
  | .leq, i, j => some (Nat.ble i j)
  | .gtr, i, j => some (Nat.ble (j + 1) i)
  | .geq, i, j => some (Nat.ble j i)
  | _, _, _ => none
/-- A number from 0 to u against m. -/
def upCmp : BinOp → Nat → Nat → Option Bool
  | .lss, u, m => bif Nat.ble (u + 1) m then some true else bif Nat.beq m 0 then some false else none
  | .leq, u, m => bif Nat.ble u m then some true else none
  | .gtr, u, m => bif Nat.ble u m then some false else none
  | .geq, u, m => bif Nat.ble (u + 1) m then some false else bif Nat.beq m 0 then some true else none
  | _, _, _ => none
def cmpK (op : BinOp) : AV → AV → Option Bool
  | .sym c i, .sym d j => bif Nat.beq c d then (bif ordC c i j then natCmp op i j else none) else none
  | .sym c _, .int _ (.ofNat 0) => bif Nat.ble c 2 then natCmp op 1 0 else none
  | .int _ (.ofNat 0), .sym c _ => bif Nat.ble c 2 then natCmp op 0 1 else none
  | .upto g n, .int _ (.ofNat m) => upCmp op (ubMax g n) m
  | _, _ => none
def uptoS (g h : Bool) (n : Nat) : Option AV := bif (bif g then h else false) then none else bif Nat.ble n 1000000000000 then some (.upto (bif g then true else h) n) else none
def arU : BinOp → AV → AV → Option AV
  | .add, .upto g n, .upto h m => uptoS g h (n + m)
  | .add, .upto g n, .int _ (.ofNat m) => uptoS g false (n + m)
  | .add, .int _ (.ofNat m), .upto g n => uptoS g false (n + m)
  | .sub, .upto g n, .int _ (.ofNat 0) => uptoS g false n
  | _, _, _ => none
def isCmp : BinOp → Bool | .lss => true | .leq => true | .gtr => true | .geq => true | _ => false
def isAr : BinOp → Bool | .add => true | .sub => true | .mul => true | .and => true | .or => true | .xor => true | _ => false
def isNatV : AV → Bool | .int _ (.ofNat _) => true | _ => false
/-- Numbers of which not all is known. -/
def bAny (op : BinOp) (x y : AV) : Option AV := match numK x, numK y with
  | some k, some l =>
    bif isCmp op then (bif kindEq k l then (match cmpK op x y with | some b => some (.bool b) | none => some .anyb) else none)
    else bif isAr op then (bif kindEq k l then (match arU op x y with | some v => some v | none => some (.anyi k)) else none)
    else bif isShift op then (bif isNatV y then (bif isNatV x then none else some (.anyi k)) else none)
    else none
  | _, _ => none
def bInt (op : BinOp) : BinF := fun _ _ x y => match x, y with
  | .int k a, .int l b => bif kindEq k l then intF op k a b else bif isShift op then intF op k a b else none
  | x, y => bAny op x y
def binF (op : BinOp) : BinF := match op with
  | .eql => bEq
  | .neq => bNeq
  | op => bInt op
def oBin (T : Tab) (op : BinOp) (t : Nat) (x y : AV) : Option AV := binF op T t x y
def isU : IntKind → Bool | .u8 => true | .u16 => true | .u32 => true | .u64 => true | _ => false
def negI : IntKind → Int → Option AV
  | k, .ofNat n => bif isU k then some (.int k (.ofNat (Nat.mod (Nat.sub (pw k) (Nat.mod n (pw k))) (pw k)))) else some (.int k (k.wrap (0 - .ofNat n)))
  | k, n => some (.int k (k.wrap (0 - n)))
def xorI : IntKind → Int → Option AV
  | k, .ofNat n => bif isU k then some (.int k (.ofNat (Nat.mod (Nat.xor (Nat.sub (pw k) 1) n) (pw k)))) else none
  | _, _ => none
def oUn (op : UnOp) (x : AV) : Option AV :=
  match op, x with
  | .neg, .int k n => negI k n
  | .xor, .int k n => xorI k n
  | .not, .bool b => some (.bool (Bool.not b))
  | .not, x => bif isKu .b x then some .anyb else none
  | .neg, .anyi k => some (.anyi k)
  | .xor, .anyi k => some (.anyi k)
  | _, _ => none

def findK (k : AV) : List (AV × AV × Nat) → Option (Option (AV × Nat))
  | [] => some none
  | (a, v, n) :: r => match eqN k a with | some true => some (some (v, n)) | some false => findK k r | none => none
def setK (k v : AV) : List (AV × AV × Nat) → List (AV × AV × Nat)
  | [] => []
  | (a, u, n) :: r => match eqN k a with | some true => (k, v, n) :: r | _ => (a, u, n) :: setK k v r
def delK (k : AV) : List (AV × AV × Nat) → List (AV × AV × Nat)
  | [] => []
  | (a, u, n) :: r => match eqN k a with | some true => r | _ => (a, u, n) :: delK k r
def setB (b : Nat) (v : AV) : List (AV × AV × Nat) → Option (List (AV × AV × Nat))
  | [] => none
  | (a, u, n) :: r => bif Nat.beq n b then some ((a, v, n) :: r) else match setB b v r with | some r => some ((a, u, n) :: r) | none => none

def fillA (fs : Nat → Option (Nat × Nat)) (cells : List AV) : List (Nat × AV) → Option (List AV)
  | [] => some cells
  | (i, v) :: rest => match fs i, v.cells with
    | some (off, size), some vs => bif Nat.beq (lenL vs) size then (bif Nat.ble (off + size) (lenL cells) then fillA fs (splice cells off vs) rest else none) else none
    | _, _ => none
def oPart (T : Tab) (t : Nat) (cs : List AV) (off : Nat) : Option AV :=
  match T.ti t with
  | some i => bif isAggD i.desc then some (.agg (cutL off i.size cs)) else atL off cs
  | none => none
def evL (ev : Operand → AV) : List (Nat × Operand) → List (Nat × AV)
  | [] => []
  | (i, x) :: r => (i, ev x) :: evL ev r
def fieldsP (T : Tab) (fs : List Field) (i : Nat) : Option (Nat × Nat) := match atL i fs with | some f => some (f.offset, T.size f.type) | none => none
def oBuild (T : Tab) (t : Nat) (ps : List (Nat × AV)) : Option AV :=
  match T.ti t with
  | some i => match i.zero.cells with
    | some z => match i.desc with
      | .struct fs => match fillA (fieldsP T fs.toList) z ps with | some l => some (.agg l) | none => none
      | .array _ e => match fillA (fun j => some (j * T.size e, T.size e)) z ps with | some l => some (.agg l) | none => none
      | _ => none
    | none => none
  | none => none
def oBuildSlice (T : Tab) (s : St) (t len : Nat) (ps : List (Nat × AV)) : Option (AV × St) :=
  match T.desc t with
  | some (.slice e) => match T.ti e with
    | some i => match i.zero.cells with
      | some z => bif Nat.ble (len * i.size) 16777216 then (bif Nat.ble 1 i.size then (match newRow s (fillA (fun j => some (j * i.size, i.size)) (repL z len) ps) i.size with
        | some s' => some (.sl s.nx 0 len len, s')
        | none => none) else none) else none
      | none => none
    | none => none
  | _ => none

/-- Bytes. -/
def fit8 : List AV → Bool
  | [] => true
  | .int .u8 (.ofNat n) :: r => bif Nat.ble n 255 then fit8 r else false
  | .anyi .u8 :: r => fit8 r
  | _ :: _ => false
def St.drop (s : St) (b : Nat) : St := { h := s.h.del b, nx := s.nx }
/-- append of bytes of which no more is known than how many they may be. -/
def oAppendU (s : St) (x : AV) (h : Bool) (k : Nat) : Option (AV × St) :=
  bif Nat.ble k 400000 then
  match x with
  | .nils => some (.slu s.nx 1 h k, s.new (.junk true 1))
  | .sl0 => some (.slu s.nx 1 h k, s.new (.junk true 1))
  | .sl _ _ 0 0 => some (.slu s.nx 1 h k, s.new (.junk true 1))
  | .slo b off len => match s.rowAt b with
    | some (cs, sz) => bif Nat.beq sz 1 && Nat.ble (off + len) (lenL cs) && fit8 (cutL off len cs) && Nat.ble len 400000 then some (.slu s.nx 1 h (len + k), (s.new (.junk true 1)).drop b) else none
    | none => none
  | .slu b z g m => match s.h.get b with
    | some (.junk true z') => bif Nat.beq z 1 && Nat.beq z' 1 && Nat.ble m 400000 && (bif g then Bool.not h else true) then some (.slu s.nx 1 (bif g then true else h) (m + k), (s.new (.junk true 1)).drop b) else none
    | _ => none
  | _ => none
  else none
/-- append: sz cells an element, bytes bytes; n elements new. -/
def oAppend (sz bytes : Nat) (s : St) (x : AV) (new : List AV) (n : Nat) : Option (AV × St) :=
  bif Nat.beq n 0 then
    (match x with | .nils => some (.nils, s) | .slz => some (.slz, s) | .sl b o l c => some (.sl b o l c, s) | .slo b o l => some (.slo b o l, s) | .slu b z g m => some (.slu b z g m, s) | .sl0 => some (.sl0, s) | _ => none)
  else
  match x with
  | .sl0 => bif Nat.ble n 1000000 then (match newRow s (some new) sz with | some s' => some (.slo s.nx 0 n, s') | none => none) else none
  | .slu b z g m => match s.h.get b with
    | some (.junk u z') => bif Nat.beq z sz && Nat.beq z' sz && allOne new && (bif u then fit8 new else true) && Nat.ble (m + n) 900000 then some (.slu s.nx sz g (m + n), (s.new (.junk u sz)).drop b) else none
    | _ => none
  | .nils => bif Nat.ble n 1000000 then (match newRow s (some new) sz with | some s' => some (.slo s.nx 0 n, s') | none => none) else none
  | .sl b off len cap =>
    bif Nat.ble (len + n) cap then (match storeC s b (off + len * sz) new with | some s' => some (.sl b off (len + n) cap, s') | none => none)
    else bif Nat.ble (len + n) 1000000 then
      match s.rowAt b with
      | some (cs, _) => bif Nat.ble (off + len * sz) (lenL cs) then (match newRow s (some (cutL off (len * sz) cs ++ new)) sz with | some s' => some (.slo s.nx 0 (len + n), s') | none => none) else none
      | none => none
    else none
  | .slo b off len =>
    match s.rowAt b with
    | some (cs, sz') =>
      bif Nat.beq sz' sz then
        bif Nat.ble (off + (len + n) * sz) (lenL cs) then (match storeC s b (off + len * sz) new with | some s' => some (.slo b off (len + n), s') | none => none)
        else bif Nat.ble (off + len * sz) (lenL cs) then
          bif Nat.ble (len + n) 1000000 then (match newRow s (some (cutL off (len * sz) cs ++ new)) sz with | some s' => some (.slo s.nx 0 (len + n), { h := s'.h.del b, nx := s'.nx }) | none => none) else none
        else none
      else none
    | none => none
  | _ => none
def byteV (u : UInt8) : AV := .int .u8 u.toNat
def bytesV : List UInt8 → List AV | [] => [] | u :: r => byteV u :: bytesV r
def oCells (s : St) (sz : Nat) : AV → Option (List AV × Nat)
  | .nils => some ([], 0)
  | .sl0 => some ([], 0)
  | .slz => some ([], 0)
  | .sl b off len _ => match s.rowAt b with | some (cs, _) => bif Nat.ble (off + len * sz) (lenL cs) then some (cutL off (len * sz) cs, len) else none | none => none
  | .slo b off len => match s.rowAt b with | some (cs, _) => bif Nat.ble (off + len * sz) (lenL cs) then some (cutL off (len * sz) cs, len) else none | none => none
  | _ => none

def natOf : AV → Option Nat | .int _ (.ofNat n) => some n | _ => none
def natOr (d : Nat) : Option AV → Option Nat | none => some d | some v => natOf v
def oSlice (T : Tab) (s : St) (t : Nat) (x : AV) (lo hi mx : Option AV) : Option AV :=
  match T.desc t with
  | some (.slice e) =>
    match x with
    | .nils => match natOr 0 lo, natOr 0 hi, natOr 0 mx with
      | some 0, some 0, some 0 => some .nils
      | _, _, _ => none
    | .slz => match natOr 0 lo, natOr 0 hi, mx with
      | some 0, some 0, none => some .slz
      | _, _, _ => none
    | .sl0 => match natOr 0 lo, natOr 0 hi, natOr 0 mx with
      | some 0, some 0, some 0 => some .sl0
      | _, _, _ => none
    | .slu b z _ _ => match natOr 0 lo, natOr 1 hi, natOr 0 mx with
      | some 0, some 0, some 0 => match mx with | some _ => some .sl0 | none => some (.slu b z false 0)
      | _, _, _ => none
    | .sl b off len cap => match natOr 0 lo, natOr len hi, natOr cap mx with
      | some l, some h, some m => bif Nat.ble l h && Nat.ble h m && Nat.ble m cap then some (.sl b (bif Nat.beq m l then off else off + l * T.size e) (h - l) (m - l)) else none
      | _, _, _ => none
    | .slo b off len => match natOr 0 lo, natOr len hi with
      | some l, some h => match s.rowAt b with
        | some (cs, sz) =>
          bif Nat.beq sz (T.size e) && Nat.ble 1 sz then
          match mx with
          | none => bif Nat.ble l h && Nat.ble (off + h * sz) (lenL cs) then (bif Nat.ble (off + l * sz + 1) (lenL cs) then some (.slo b (off + l * sz) (h - l)) else some .slz) else none
          | some m => match natOf m with
            | some m => bif Nat.ble l h && Nat.ble h m && Nat.ble (off + m * sz) (lenL cs) then some (.sl b (bif Nat.beq m l then off else off + l * sz) (h - l) (m - l)) else none
            | none => none
          else none
        | none => none
      | _, _ => none
    | _ => none
  | some (.array n e) => match x with
    | .ptr b off => match natOr 0 lo, natOr n hi, natOr n mx with
      | some l, some h, some m => bif Nat.ble l h && Nat.ble h m && Nat.ble m n then some (.sl b (bif Nat.beq m l then off else off + l * T.size e) (h - l) (m - l)) else none
      | _, _, _ => none
    | _ => none
  | some .string => match x, mx with
    | .str u, none => match natOr 0 lo, natOr u.size hi with
      | some l, some h => bif Nat.ble l h && Nat.ble h u.size then some (.str (u.extract l h)) else none
      | _, _ => none
    | _, _ => none
  | _ => none
def byteOf : AV → Option UInt8 | .int .u8 n => some (UInt8.ofNat n.toNat) | _ => none
def bytesOf : List AV → Option (List UInt8)
  | [] => some []
  | a :: r => match byteOf a, bytesOf r with | some u, some l => some (u :: l) | _, _ => none
def isU8 : Option TypeDesc → Bool | some (.int .u8) => true | _ => false
def oConv (T : Tab) (s : St) (src dst : Nat) (x : AV) : Option AV :=
  match T.desc dst, x with
  | some (.int k), .int _ n => match T.desc src with | some (.int _) => some (.int k (k.wrap n)) | _ => none
  | some (.int k), x => match T.desc src, numK x with | some (.int _), some _ => some (.anyi k) | _, _ => none
  | some .string, x => match T.desc src, x with
    | some .string, .str u => some (.str u)
    | some (.slice e), .nils => bif isU8 (T.desc e) then some (.str .empty) else none
    | some (.slice e), x => bif isU8 (T.desc e) then (match oCells s 1 x with | some (cs, _) => (match bytesOf cs with | some l => some (.str ⟨⟨l⟩⟩) | none => none) | none => none) else none
    | _, _ => none
  | _, _ => none
/-- Keys that are numbers, texts or truths, and so is the map's kind of keys. -/
def keyD : Option TypeDesc → AV → Bool
  | some .bool, .bool _ => true
  | some (.int _), .int _ _ => true
  | some .string, .str _ => true
  | some (.int _), .sym c _ => Nat.ble c 4
  | _, _ => false
def keyOk (T : Tab) (t : Nat) (k : AV) : Bool := match T.desc t with | some (.map e _) => keyD (T.desc e) k | _ => false
def oLookup (T : Tab) (s : St) (t : Nat) (x k : AV) (ok : Bool) : Option AV :=
  match T.desc t with
  | some (.map _ e) => match T.ti e with
    | some ie =>
      match (match x with
        | .nilm => some none
        | .mp b => (match s.h.get b with | some (.map es _) => findK k es | _ => none)
        | _ => none : Option (Option (AV × Nat))) with
      | some (some (v, _)) => some (bif ok then .tup [v, .bool true] else v)
      | some none => some (bif ok then .tup [ie.zero, .bool false] else ie.zero)
      | none => none
    | none => none
  | _ => none
def oMapSet (T : Tab) (s : St) (t : Nat) (m k x : AV) : Option St :=
  bif keyOk T t k then
  match m with
  | .mp b => match s.h.get b with
    | some (.map es clock) => match findK k es with
      | some (some _) => some (s.setO b (.map (setK k x es) clock))
      | some none => some (s.setO b (.map (es ++ [(k, x, clock)]) (clock + 1)))
      | none => none
    | _ => none
  | _ => none
  else none
def oMapEntry (T : Tab) (s : St) (t : Nat) (m k : AV) : Option (AV × St) :=
  bif keyOk T t k then
  match T.desc t, m with
  | some (.map _ e), .mp b => match s.h.get b, T.ti e with
    | some (.map es clock), some ie => match findK k es with
      | some (some (v, n)) => some (.tup [v, .int .i64 n], s.setO b (.map (setK k v es) clock))
      | some none => some (.tup [ie.zero, .int .i64 clock], s.setO b (.map (es ++ [(k, ie.zero, clock)]) (clock + 1)))
      | none => none
    | _, _ => none
  | _, _ => none
  else none
def oEntryStore (s : St) (m st x : AV) : Option St :=
  match m, natOf st with
  | .mp b, some n => match s.h.get b with
    | some (.map es clock) => match setB n x es with | some es => some (s.setO b (.map es clock)) | none => none
    | _ => none
  | _, _ => none
def oDelete (T : Tab) (s : St) (t : Nat) (m k : AV) : Option St :=
  bif keyOk T t k then
  match m with
  | .nilm => some s
  | .mp b => match s.h.get b with
    | some (.map es clock) => match findK k es with
      | some _ => some (s.setO b (.map (delK k es) clock))
      | none => none
    | _ => none
  | _ => none
  else none
def oClear (T : Tab) (s : St) (t : Nat) (x : AV) : Option St :=
  match x with
  | .nils => some s
  | .nilm => some s
  | .slz => some s
  | .sl _ _ 0 _ => some s
  | .slo _ _ 0 => some s
  | .mp b => match s.h.get b with | some (.map _ clock) => some (s.setO b (.map [] clock)) | _ => none
  | .sl b off len _ => match T.desc t with | some (.slice e) => (match T.ti e with | some i => (match i.zero.cells with | some z => storeC s b off (repL z len) | none => none) | none => none) | _ => none
  | .slo b off len => match T.desc t with | some (.slice e) => (match T.ti e with | some i => (match i.zero.cells with | some z => storeC s b off (repL z len) | none => none) | none => none) | _ => none
  | _ => none
def oRange (T : Tab) (s : St) (t : Nat) (x : AV) : Option (AV × St) :=
  match T.desc t, x with
  | some .string, .str u => some (.ptr s.nx 0, s.new (.sit u 0))
  | some (.map _ _), .nilm => some (.ptr s.nx 0, s.new (.iter none 0 [] 0))
  | some (.map _ _), .mp m => match s.h.get m with
    | some (.map _ clock) => some (.ptr s.nx 0, s.new (.iter (some m) clock [] clock))
    | _ => none
  | _, _ => none
def memN (n : Nat) : List Nat → Bool | [] => false | a :: r => bif Nat.beq a n then true else memN n r
/-- Entries that an iterator has still to give: those that stood when it began; none: there is a newer one. -/
def leftE (since : Nat) (seen : List Nat) : List (AV × AV × Nat) → Option (List (AV × AV × Nat))
  | [] => some []
  | (k, v, n) :: r => match leftE since seen r with
    | some l => bif memN n seen then some l else bif Nat.ble since n then none else some ((k, v, n) :: l)
    | none => none
def anyOlder (last : Nat) : List (AV × AV × Nat) → Bool
  | [] => false
  | (_, _, n) :: r => bif Nat.ble last n then anyOlder last r else true
def iterOk (seen : List Nat) (es : List (AV × AV × Nat)) (last : Nat) : Bool :=
  match seen with
  | [] => true
  | _ => (match es with | [] => true | _ => anyOlder last es)
/-- What next may give; the machine behind it. -/
def oNext (s : St) (it : AV) (isString : Bool) : Option (List (AV × St)) :=
  match it with
  | .ptr b 0 => match s.h.get b with
    | some (.sit u pos) => bif isString then (bif Nat.ble (pos + 1) u.size then
        some [(.tup [.bool true, .int .i64 pos, .int .i32 (Utf8.decode u pos).1], s.setO b (.sit u (pos + (Utf8.decode u pos).2)))]
      else some [(.tup [.bool false], s)]) else none
    | some (.iter none _ _ _) => bif isString then none else some [(.tup [.bool false], s)]
    | some (.iter (some m) since seen last) => bif isString then none else match s.h.get m with
      | some (.map es clock) =>
        bif iterOk seen es last then
        match leftE since seen es with
        | some [] => some [(.tup [.bool false], s)]
        | some l => some (l.map fun e => (.tup [.bool true, e.1, e.2.1], s.setO b (.iter (some m) since (seen ++ [e.2.2]) clock)))
        | none => none
        else none
      | _ => none
    | _ => none
  | _ => none
def lastN : List Nat → Option Nat | [] => none | [a] => some a | _ :: r => lastN r
def findB (n : Nat) : List (AV × AV × Nat) → Option (AV × AV)
  | [] => none
  | (k, v, m) :: r => bif Nat.beq m n then some (k, v) else findB n r
def oEntry (s : St) (it : AV) : Option AV :=
  match it with
  | .ptr b 0 => match s.h.get b with
    | some (.iter (some m) _ seen last) => match s.h.get m, lastN seen with
      | some (.map es clock), some n => bif Nat.beq clock last then (match findB n es with | some (k, v) => some (.tup [k, v]) | none => none) else none
      | _, _ => none
    | _ => none
  | _ => none
def oAssert (T : Tab) (x : AV) (t : Nat) (ok : Bool) : Option AV :=
  match T.ti t with
  | some i => match i.desc with
    | .interface _ => none
    | _ => match x with
      | .ifc u v => bif Nat.beq u t then some (bif ok then .tup [v, .bool true] else v) else bif ok then some (.tup [i.zero, .bool false]) else none
      | .nili => bif ok then some (.tup [i.zero, .bool false]) else none
      | _ => none
  | none => none
def foldMin (pick : Int → Int → Bool) (k : IntKind) (x : Int) : List AV → Option AV
  | [] => some (.int k x)
  | .int _ y :: r => foldMin pick k (bif pick x y then y else x) r
  | _ :: _ => none
def oLen (s : St) : AV → Option AV
  | .slu _ _ g n => bif Nat.ble n 900000 then some (.upto g n) else none
  | .sl0 => some (.int .i64 0)
  | .sym c _ => bif Nat.beq c 5 then some (.upto false 32) else none
  | .str u => some (.int .i64 u.size)
  | .nils => some (.int .i64 0)
  | .slz => some (.int .i64 0)
  | .sl _ _ n _ => some (.int .i64 n)
  | .slo _ _ n => some (.int .i64 n)
  | .nilm => some (.int .i64 0)
  | .mp b => match s.h.get b with | some (.map es _) => some (.int .i64 (lenL es)) | _ => none
  | _ => none
def lenFit : Option TypeDesc → AV → Bool
  | some .string, .str _ => true
  | some (.slice _), .nils => true
  | some (.slice _), .slz => true
  | some (.slice _), .sl .. => true
  | some (.slice _), .slo .. => true
  | some (.slice _), .slu .. => true
  | some (.slice _), .sl0 => true
  | some .string, .sym c _ => Nat.beq c 5
  | some (.map _ _), .nilm => true
  | some (.map _ _), .mp _ => true
  | _, _ => false
def vs1 (s : St) : Option AV → Option (AV × St) | some v => some (v, s) | none => none
def us1 : Option St → Option (AV × St) | some s => some (.tup [], s) | none => none
def oBuiltin (T : Tab) (s : St) (b : Builtin) (t : Nat) (xT : Option Nat) : List AV → Option (AV × St)
  | [x] => match b with
    | .len => bif lenFit (T.desc t) x then vs1 s (oLen s x) else none
    | .cap => match T.desc t, x with
      | some (.slice _), .nils => some (.int .i64 0, s)
      | some (.slice _), .sl _ _ _ c => some (.int .i64 c, s)
      | _, _ => none
    | .clear => match T.desc t with | some _ => us1 (oClear T s t x) | none => none
    | .min => match x with | .int k n => some (.int k n, s) | _ => none
    | .max => match x with | .int k n => some (.int k n, s) | _ => none
    | _ => none
  | [x, y] => match b with
    | .append => match T.desc t with
      | some (.slice e) => match T.ti e with
        | some i => bif Nat.ble 1 i.size && Nat.ble i.bytes 65536 && i.zero.cells.isSome then
          (match xT with
          | none => none
          | some xt => match T.desc xt with
            | some (.int _) => (match natOf y, i.zero.cells with | some n, some z => bif Nat.ble n 1000000 then oAppend i.size i.bytes s x (repL z n) n else none | _, _ => (match y, i.zero with | .upto g n, .int .u8 (.ofNat 0) => bif Nat.beq i.size 1 then oAppendU s x g n else none | _, _ => none))
            | some .string => (match y with | .str u => bif Nat.beq i.size 1 then oAppend i.size i.bytes s x (bytesV u.data.toList) u.data.toList.length else none | .sym c _ => bif Nat.beq c 5 && Nat.beq i.size 1 then oAppendU s x false 32 else none | _ => none)
            | some (.slice _) => (match oCells s i.size y with | some (cs, n) => oAppend i.size i.bytes s x cs n | none => (match y with | .slu b z g m => (match s.h.get b with | some (.junk true 1) => bif Nat.beq z 1 && Nat.beq i.size 1 then oAppendU s x g m else none | _ => none) | _ => none))
            | _ => none) else none
        | none => none
      | _ => none
    | .delete => us1 (oDelete T s t x y)
    | .min => match x with | .int k n => vs1 s (foldMin (fun x y => decide (y < x)) k n [y]) | _ => none
    | .max => match x with | .int k n => vs1 s (foldMin (fun x y => decide (y > x)) k n [y]) | _ => none
    | _ => none
  | x :: r => match b, x with
    | .min, .int k n => vs1 s (foldMin (fun x y => decide (y < x)) k n r)
    | .max, .int k n => vs1 s (foldMin (fun x y => decide (y > x)) k n r)
    | _, _ => none
  | _ => none

def mapO (ev : Operand → AV) : Option Operand → Option AV | some x => some (ev x) | none => none
def mapE (ev : Operand → AV) : List Operand → List AV | [] => [] | x :: r => ev x :: mapE ev r
/-- An operation that calls no Go function: what it gives, the machine behind it. -/
abbrev OpF := Tab → St → (Operand → AV) → Option (AV × St)
def xMove (x : Operand) : OpF := fun _ s ev => some (ev x, s)
def pickB (a b : AV) (s : St) : AV → Option (AV × St)
  | .bool t => some (bif t then a else b, s)
  | c => bif isKu .b c then (bif isKu .b a then (bif isKu .b b then some (.anyb, s) else none) else none) else none
def xPick (c a b : Operand) : OpF := fun _ s ev => pickB (ev a) (ev b) s (ev c)
def allocB (s : St) (sz : Nat) (cs : Option (List AV)) : Option (AV × St) := match newRow s cs sz with | some s' => some (.ptr s.nx 0, s') | none => none
def xAlloc (t : Nat) : OpF := fun T s _ => match T.ti t with | some i => allocB s i.size i.zero.cells | none => none
def xBox (t : Nat) (x : Operand) : OpF := fun T s ev => match T.ti t with | some i => allocB s i.size (ev x).cells | none => none
def xBuild (t : Nat) (ps : Array (Nat × Operand)) : OpF := fun T s ev => vs1 s (oBuild T t (evL ev ps.toList))
def xBuildSlice (t len : Nat) (ps : Array (Nat × Operand)) : OpF := fun T s ev => oBuildSlice T s t len (evL ev ps.toList)
def xLoad (t : Nat) (a : Operand) : OpF := fun T s ev => vs1 s (oLoad T s t (ev a))
def xStore (t : Nat) (a x : Operand) : OpF := fun T s ev => us1 (oStore T s t (ev a) (ev x))
def nilB (s : St) : AV → Option (AV × St) | .ptr b off => some (.ptr b off, s) | .ifc t v => some (.ifc t v, s) | .fn (.func f) a b => some (.fn (.func f) a b, s) | _ => none
def xNil (x : Operand) : OpF := fun _ s ev => nilB s (ev x)
def isCst : Operand → Bool | .const _ => true | _ => false
/-- nil and nil, of an interface type, one of them written out. -/
def nilNil (T : Tab) (op : BinOp) (t : Nat) (c : Bool) : AV → AV → Option AV
  | .nili, .nili => bif c then (match T.desc t with
    | some (.interface _) => (match op with | .eql => some (.bool true) | .neq => some (.bool false) | _ => none)
    | _ => none) else none
  | _, _ => none
def binX (T : Tab) (op : BinOp) (t : Nat) (x y : Operand) (a b : AV) : Option AV := match oBin T op t a b with
  | some v => some v
  | none => nilNil T op t (bif isCst x then true else isCst y) a b
def xBin (op : BinOp) (t : Nat) (x y : Operand) (_ : Nat) : OpF := fun T s ev => vs1 s (binX T op t x y (ev x) (ev y))
def xUn (op : UnOp) (_ : Nat) (x : Operand) : OpF := fun _ s ev => vs1 s (oUn op (ev x))
def xConv (a b : Nat) (x : Operand) : OpF := fun T s ev => vs1 s (oConv T s a b (ev x))
def xIface (t : Nat) (x : Operand) : OpF := fun T s ev => match T.desc t with | some (.interface _) => none | some _ => some (.ifc t (ev x), s) | none => none
def xFunc (f : Fn) (a b : Array Operand) : OpF := fun _ s ev => some (.fn f (mapE ev a.toList) (mapE ev b.toList), s)
def xMakeMap (_ : Nat) (r : Option Operand) : OpF := fun _ s _ => match r with | none => some (.mp s.nx, s.new (.map [] 0)) | some _ => none
def sameOp : Operand → Operand → Bool | .tmp a, .tmp b => Nat.beq a b | _, _ => false
def xMakeSlice (t : Nat) (l c : Operand) : OpF := fun T s ev => match T.desc t, natOf (ev l), natOf (ev c) with
    | some (.slice e), some l, some c => match T.ti e with
      | some i => match i.zero.cells with
        | some z => bif Nat.ble l c && Nat.ble c 1000000 && Nat.ble i.bytes 65536 && Nat.ble 1 i.size then (match newRow s (some (repL z c)) i.size with | some s' => some (.sl s.nx 0 l c, s') | none => none) else none
        | none => none
      | none => none
    | some (.slice e), _, _ => match ev l, ev c, T.ti e with
      | .upto g n, .upto h m, some i => (match i.zero with
        | .int .u8 (.ofNat 0) => bif Nat.beq i.size 1 && Nat.ble i.bytes 65536 && Nat.beq n m && (bif g then h else Bool.not h) && Nat.ble n 400000 && sameOp l c then some (.slu s.nx 1 g n, s.new (.junk true 1)) else none
        | _ => none)
      | _, _, _ => none
    | _, _, _ => none
def mxOk : Option Operand → Option Operand → Bool | none, some _ => false | _, _ => true
def xSlice (t : Nat) (x : Operand) (lo hi mx : Option Operand) : OpF := fun T s ev => bif mxOk hi mx then vs1 s (oSlice T s t (ev x) (mapO ev lo) (mapO ev hi) (mapO ev mx)) else none
def fieldAddrB (T : Tab) (s : St) (fs : Array Field) (f : Nat) : AV → Option (AV × St)
  | .ptr b off => match atL f fs.toList with | some g => bif Nat.beq (T.size g.type) 0 then none else some (.ptr b (Nat.add off g.offset), s) | none => none
  | _ => none
def xFieldAddr (t : Nat) (x : Operand) (f : Nat) : OpF := fun T s ev => match T.desc t with
    | some (.struct fs) => fieldAddrB T s fs f (ev x)
    | _ => none
def xField (t : Nat) (x : Operand) (f : Nat) : OpF := fun T s ev => match T.desc t, ev x with
    | some (.struct fs), .agg cs => (match atL f fs.toList with | some g => vs1 s (oPart T g.type cs g.offset) | none => none)
    | _, _ => none
def xIndexAddr (t : Nat) (x ix : Operand) : OpF := fun T s ev => match T.desc t, ev x, natOf (ev ix) with
    | some (.array n e), .ptr b off, some i => bif Nat.ble (i + 1) n then some (.ptr b (off + i * T.size e), s) else none
    | some (.slice e), .sl b off len _, some i => bif Nat.ble (i + 1) len then some (.ptr b (off + i * T.size e), s) else none
    | some (.slice e), .slo b off len, some i => bif Nat.ble (i + 1) len then some (.ptr b (off + i * T.size e), s) else none
    | _, _, _ => none
def xIndex (t : Nat) (x ix : Operand) : OpF := fun T s ev => match T.desc t, ev x, natOf (ev ix) with
    | some (.array n e), .agg cs, some i => bif Nat.ble (i + 1) n then vs1 s (oPart T e cs (i * T.size e)) else none
    | some .string, .str u, some i => (match atL i u.data.toList with | some c => some (byteV c, s) | none => none)
    | _, _, _ => none
def xLookup (t : Nat) (x k : Operand) (ok : Bool) : OpF := fun T s ev => bif keyOk T t (ev k) then vs1 s (oLookup T s t (ev x) (ev k) ok) else none
def xMapUpdate (t : Nat) (m k x : Operand) : OpF := fun T s ev => us1 (oMapSet T s t (ev m) (ev k) (ev x))
def xMapEntry (t : Nat) (m k : Operand) : OpF := fun T s ev => oMapEntry T s t (ev m) (ev k)
def xEntryStore (_ : Nat) (m st x : Operand) : OpF := fun _ s ev => us1 (oEntryStore s (ev m) (ev st) (ev x))
def xRange (t : Nat) (x : Operand) : OpF := fun T s ev => oRange T s t (ev x)
def xEntry (it : Operand) : OpF := fun _ s ev => vs1 s (oEntry s (ev it))
def xAssert (x : Operand) (_ t : Nat) (ok : Bool) : OpF := fun T s ev => vs1 s (oAssert T (ev x) t ok)
def extractB (s : St) (i : Nat) : AV → Option (AV × St) | .tup l => vs1 s (atL i l) | _ => none
def xExtract (t : Operand) (i : Nat) : OpF := fun _ s ev => extractB s i (ev t)
def xBuiltin (b : Builtin) (c : Call) : OpF := fun T s ev => match c.argTypes.toList with
      | t :: r => oBuiltin T s b t (match r with | x :: _ => some x | [] => none) (mapE ev c.args.toList)
      | [] => none
def xNone : OpF := fun _ _ _ => none
inductive Ex | normal | exit (id : Nat) | ret
abbrev CallF (β : Type) := Nat → List AV → St → (AV → St → β) → β

/-- Temporaries: those of the region at hand; those that live on, by the mask's bits. -/
structure Tm where
  loc : List (Nat × AV)
  far : Tr AV
def bitN (m i : Nat) : Bool := Nat.beq (Nat.mod (Nat.div m (Nat.pow 2 i)) 2) 1
def findL (i : Nat) (l : List (Nat × AV)) : Option AV := List.rec none (fun p _ ih => @Bool.rec (fun _ => Option AV) ih (some p.2) (Nat.beq p.1 i)) l
def Tm.get (mk : Nat) (t : Tm) (i : Nat) : Option AV := @Bool.rec (fun _ => Option AV) (findL i t.loc) (t.far.get i) (bitN mk i)
def Tm.fresh (t : Tm) : Tm := { loc := [], far := t.far }
def orBad (o : Option AV) : AV := Option.rec .bad (fun v => v) o
def eTmp (i : Nat) (mk : Nat) (t : Tm) : AV := orBad (t.get mk i)
def evA (mk : Nat) (t : Tm) (x : Operand) : AV := Operand.rec (fun i => eTmp i mk t) (fun v => absV v) (fun _ => .bad) (fun f => .fn (.func f) [] []) x
def boolIs (want : Bool) : Option AV → Option Bool | some (.bool b) => some (Bool.rec (Bool.not want) want b) | some (.tup []) => some false | _ => none
def guardA (mk : Nat) (ops : List Oper) (t : Tm) (j : Nat) (want : Bool) : Option Bool :=
  match atL j ops with
    | some g => match g.dst with
      | some d => boolIs want (t.get mk d)
      | none => none
    | none => none
def putK {γ : Type} (mk : Nat) (dst : Option Tmp) (v : AV) (t : Tm) (k : Tm → γ) : γ := Option.rec (k t) (fun d => @Bool.rec (fun _ => γ) (k { loc := (d, v) :: t.loc, far := t.far }) (k { loc := t.loc, far := t.far.set d v }) (bitN mk d)) dst
/-- A temporary of which more is known now. -/
def learnK {γ : Type} (mk : Nat) (x : Operand) (v : AV) (t : Tm) (k : Tm → γ) : γ := match x with | .tmp d => putK mk (some d) v t k | _ => k t
/-- A guard that hangs on a truth that is not known: its temporary. -/
def guardU (mk : Nat) (ops : List Oper) (t : Tm) (j : Nat) : Option Nat :=
  match atL j ops with
    | some g => match g.dst with
      | some d => match t.get mk d with | some v => bif isKu .b v then some d else none | none => none
      | none => none
    | none => none
/-- The number under which a loop's rounds are called. -/
def YF : Nat := 1000000
/-- A call of what a loop over a function hands on. -/
def yieldOf (o : Oper) (ev : Operand → AV) : Option (List AV) := match o.op with
  | .call c => (match c.callee with | .value f => (match ev f with | .yld b => some (.yld b :: mapE ev c.args.toList) | _ => none) | _ => none)
  | _ => none
section
variable {β : Type} (T : Tab) (fl : β) (conj : β → β → β)
def isFn (T : Tab) (g : Nat) : Bool := match T.func g with | some fn => fn.body.isSome | none => false
def extK (k : AV → St → β) (s : St) (args : List AV) : Option (List AV → Option AV) → β
  | some e => (match e args with | some v => k v s | none => fl)
  | none => fl
def callFn (call : CallF β) (s : St) (k : AV → St → β) (g : Nat) (args : List AV) : β :=
  bif isFn T g then call g args s k else extK fl k s args (T.ext g)
def recvA (s : St) (t : Nat) (v : AV) (ptr : Bool) : Option AV :=
  match T.desc t with
  | some (.pointer e) => bif ptr then some v else oLoad T s e v
  | _ => none
def callRecv (call : CallF β) (s : St) (k : AV → St → β) (g : Nat) (args : List AV) : Option AV → β
  | some u => callFn T fl call s k g (u :: args)
  | none => fl
def callOp (call : CallF β) (s : St) (c : Call) (ev : Operand → AV) (k : AV → St → β) : β :=
  match c.callee with
  | .value f => match ev f with
    | .fn (.func g) first cap => callFn T fl call s k g (first ++ (mapE ev c.args.toList ++ cap))
    | _ => fl
  | .invoke r name => match ev r with
    | .ifc t v => match T.meth t name with
      | some (g, ptr) => callRecv T fl call s k g (mapE ev c.args.toList) (recvA T s t v ptr)
      | none => fl
    | _ => fl
  | .builtin _ => fl
def allK (k : AV → St → β) : List (AV × St) → β
  | [] => fl
  | [(v, s)] => k v s
  | (v, s) :: r => conj (k v s) (allK k r)
def goS (k : AV → St → β) (v : AV) (s : St) : β := St.rec (fun h nx => k v ⟨h, nx⟩) s
def contO (k : AV → St → β) (r : Option (AV × St)) : β := Option.rec fl (fun p => Prod.rec (fun v s => goS k v s) p) r
def contN (k : AV → St → β) : Option (List (AV × St)) → β | some l => allK fl conj k l | none => fl
abbrev OpK (β : Type) := Tab → β → (β → β → β) → CallF β → St → (Operand → AV) → (AV → St → β) → β
def yPlain (o : OpF) : OpK β := fun T fl _ _ s ev k => contO fl k (o T s ev)
def yCall (c : Call) : OpK β := fun T fl _ call s ev k => callOp T fl call s c ev k
def yNext (it : Operand) (str : Bool) : OpK β := fun _ fl conj _ s ev k => contN fl conj k (oNext s (ev it) str)
def yCallee (c : Call) (b : Callee) : OpK β := match b with
  | .builtin b => yPlain (xBuiltin b c)
  | .value _ => yCall c
  | .invoke _ _ => yCall c
def yMove (x : Operand) : OpK β := fun _ _ _ _ s ev k => k (ev x) s
/-- One operation. -/
def opK (o : Op) : OpK β := Op.rec
  (fun x => yMove x)
  (fun x => yMove x)
  (fun c a b => yPlain (xPick c a b))
  (fun t => yPlain (xAlloc t))
  (fun t x => yPlain (xBox t x))
  (fun t ps => yPlain (xBuild t ps))
  (fun t len ps => yPlain (xBuildSlice t len ps))
  (fun _ _ _ _ => yPlain xNone)
  (fun t a => yPlain (xLoad t a))
  (fun t a x => yPlain (xStore t a x))
  (fun _ => yPlain xNone)
  (fun _ => yPlain xNone)
  (fun x => yPlain (xNil x))
  (fun op t x y u => yPlain (xBin op t x y u))
  (fun op t x => yPlain (xUn op t x))
  (fun a b x => yPlain (xConv a b x))
  (fun _ _ => yPlain xNone)
  (fun t x => yPlain (xIface t x))
  (fun f a b => yPlain (xFunc f a b))
  (fun t r => yPlain (xMakeMap t r))
  (fun _ _ => yPlain xNone)
  (fun t l c => yPlain (xMakeSlice t l c))
  (fun t x lo hi mx => yPlain (xSlice t x lo hi mx))
  (fun t x f => yPlain (xFieldAddr t x f))
  (fun t x f => yPlain (xField t x f))
  (fun t x ix => yPlain (xIndexAddr t x ix))
  (fun t x ix => yPlain (xIndex t x ix))
  (fun t x k ok => yPlain (xLookup t x k ok))
  (fun t m k x => yPlain (xMapUpdate t m k x))
  (fun t m k => yPlain (xMapEntry t m k))
  (fun t m st x => yPlain (xEntryStore t m st x))
  (fun t x => yPlain (xRange t x))
  (fun it str => yNext it str)
  (fun it => yPlain (xEntry it))
  (fun x u t ok => yPlain (xAssert x u t ok))
  (fun t i => yPlain (xExtract t i))
  (fun c => yCallee c c.callee)
  (fun _ => yPlain xNone)
  (fun _ => yPlain xNone)
  (fun _ => yPlain xNone)
  (fun _ _ => yPlain xNone)
  (fun _ _ _ => yPlain xNone)
  (fun _ _ => yPlain xNone) o
def stepK (call : CallF β) (mk : Nat) (o : Oper) (t : Tm) (s : St) (k : Tm → St → β) : β :=
  Option.rec (opK o.op T fl conj call s (evA mk t) fun v s => putK mk o.dst v t fun t => k t s) (fun args => call YF args s fun v s => putK mk o.dst v t fun t => k t s) (yieldOf o (evA mk t))
def opStep (call : CallF β) (mk : Nat) (all : List Oper) (o : Oper) (t : Tm) (s : St) (k : Tm → St → β) : β :=
  Option.rec (stepK T fl conj call mk o t s k)
    (fun g => Option.rec
      (Option.rec fl (fun d => conj (putK mk (some d) (.bool g.2) t fun t => stepK T fl conj call mk o t s k) (putK mk (some d) (.bool (Bool.not g.2)) t fun t => putK mk o.dst (.tup []) t fun t => k t s)) (guardU mk all t g.1))
      (fun w => @Bool.rec (fun _ => β) (putK mk o.dst (.tup []) t fun t => k t s) (stepK T fl conj call mk o t s k) w) (guardA mk all t g.1 g.2)) o.guard
def opsF (call : CallF β) (mk : Nat) (all : List Oper) (l : List Oper) : Tm → St → (Tm → St → β) → β :=
  List.rec (fun t s k => k t s) (fun o _ ih t s k => opStep T fl conj call mk all o t s fun t s => ih t s k) l
/-! ### Regions that draw their order -/
def memB (i : Nat) (l : List Nat) : Bool := List.rec false (fun j _ ih => @Bool.rec (fun _ => Bool) ih true (Nat.beq i j)) l
def evS (see : List Nat) (mk : Nat) (t : Tm) (x : Operand) : AV := Operand.rec (fun i => @Bool.rec (fun _ => AV) .bad (eTmp i mk t) (memB i see)) (fun v => absV v) (fun _ => .bad) (fun f => .fn (.func f) [] []) x
/-- Operations that leave the memory as it is. -/
def opX : Op → Option OpF
  | .move x => some (xMove x)
  | .assign x => some (xMove x)
  | .pick c a b => some (xPick c a b)
  | .build t ps => some (xBuild t ps)
  | .load t a => some (xLoad t a)
  | .nilCheck x => some (xNil x)
  | .binOp op t x y u => some (xBin op t x y u)
  | .unOp op t x => some (xUn op t x)
  | .convert a b x => some (xConv a b x)
  | .makeInterface t x => some (xIface t x)
  | .makeFunc f a b => some (xFunc f a b)
  | .slice t x lo hi mx => some (xSlice t x lo hi mx)
  | .fieldAddr t x f => some (xFieldAddr t x f)
  | .field t x f => some (xField t x f)
  | .indexAddr t x ix => some (xIndexAddr t x ix)
  | .index t x ix => some (xIndex t x ix)
  | .lookup t x k ok => some (xLookup t x k ok)
  | .entry it => some (xEntry it)
  | .typeAssert x u t ok => some (xAssert x u t ok)
  | .extract t i => some (xExtract t i)
  | .call c => match c.callee with
    | .builtin .len => some (xBuiltin .len c)
    | .builtin .cap => some (xBuiltin .cap c)
    | _ => none
  | _ => none
def rowF (sz : Nat) (mk : Nat → AV) : Option (List AV) → Option ((Nat → AV) × AO)
  | some l => bif allOne l then some (mk, .row l sz) else none
  | none => none
abbrev FreF := Tab → (Operand → AV) → Option ((Nat → AV) × AO)
/-- Operations that make an object and no more. -/
def freX : Op → Option FreF
  | .alloc t => some fun T _ => match T.ti t with | some i => rowF i.size (fun b => .ptr b 0) i.zero.cells | none => none
  | .box t x => some fun T ev => match T.ti t with | some i => rowF i.size (fun b => .ptr b 0) (ev x).cells | none => none
  | .makeMap _ none => some fun _ _ => some (.mp, .map [] 0)
  | .buildSlice t len ps => some fun T ev => match T.desc t with
    | some (.slice e) => match T.ti e with
      | some i => match i.zero.cells with
        | some z => bif Nat.ble (len * i.size) 16777216 then (bif Nat.ble 1 i.size then
            rowF i.size (fun b => .sl b 0 len len) (fillA (fun j => some (j * i.size, i.size)) (repL z len) (evL ev ps.toList)) else none) else none
        | none => none
      | none => none
    | _ => none
  | _ => none
/-- Equal values. -/
def kB : IntKind → IntKind → Bool := fun a b => decide (a = b)
mutual
def beqV : AV → AV → Bool
  | .bool a, .bool b => a == b
  | .int j a, .int k b => bif kB j k then decide (a = b) else false
  | .str a, .str b => decide (a = b)
  | .nilp, .nilp => true
  | .ptr a b, .ptr c d => bif Nat.beq a c then Nat.beq b d else false
  | .nils, .nils => true
  | .sl a b c d, .sl e f g h => bif Nat.beq a e then bif Nat.beq b f then bif Nat.beq c g then Nat.beq d h else false else false else false
  | .slo a b c, .slo e f g => bif Nat.beq a e then bif Nat.beq b f then Nat.beq c g else false else false
  | .slz, .slz => true
  | .nilm, .nilm => true
  | .mp a, .mp b => Nat.beq a b
  | .fn (.func f) a c, .fn (.func g) d e => bif Nat.beq f g then (bif beqVs a d then beqVs c e else false) else false
  | .nilf, .nilf => true
  | .ifc t v, .ifc u x => bif Nat.beq t u then beqV v x else false
  | .nili, .nili => true
  | .agg l, .agg m => beqVs l m
  | .tup l, .tup m => beqVs l m
  | .any, .any => true
  | .bad, .bad => true
  | .sym a b, .sym c d => bif Nat.beq a c then Nat.beq b d else false
  | .anyi j, .anyi k => kB j k
  | .anyb, .anyb => true
  | .upto g n, .upto h m => bif Nat.beq n m then g == h else false
  | .sl0, .sl0 => true
  | .slu a b g c, .slu d e h f => bif Nat.beq a d then (bif Nat.beq b e then (bif Nat.beq c f then g == h else false) else false) else false
  | _, _ => false
def beqVs : List AV → List AV → Bool
  | [], [] => true
  | a :: r, b :: q => bif beqV a b then beqVs r q else false
  | _, _ => false
end
def beqO : AO → AO → Bool
  | .row a b, .row c d => bif Nat.beq b d then beqVs a c else false
  | .map [] a, .map [] b => Nat.beq a b
  | _, _ => false
def nameOf : AV → Nat
  | .ptr b _ => b
  | .sl b _ _ _ => b
  | .mp b => b
  | _ => 0
/-- Is it carried out? -/
def wantA (mk : Nat) (all : List Oper) (t : Tm) (g : Option (Nat × Bool)) : Option Bool := match g with
  | none => some true
  | some (j, want) => guardA mk all t j want
/-- What an operation that leaves the memory yields. -/
def stillA (T : Tab) (mk : Nat) (all : List Oper) (see : List Nat) (o : Oper) (t : Tm) (s : St) : Option AV :=
  match wantA mk all t o.guard with
  | some true => match opX o.op with
    | some f => match f T s (evS see mk t) with | some (v, _) => some v | none => none
    | none => none
  | some false => some (.tup [])
  | none => none
/-- What an operation that makes an object yields: none made if it is not wanted. -/
def freA (T : Tab) (mk : Nat) (all : List Oper) (see : List Nat) (o : Oper) (t : Tm) : Option (Option ((Nat → AV) × AO)) :=
  match wantA mk all t o.guard with
  | some true => match freX o.op with
    | some f => match f T (evS see mk t) with | some p => some (some p) | none => none
    | none => none
  | some false => some none
  | none => none
def isV (mk : Nat) (t : Tm) (v : AV) : Option Tmp → Bool
  | some d => match t.get mk d with | some u => beqV v u | none => false
  | none => true
/-- It would yield again what it yielded. -/
def againB (T : Tab) (mk : Nat) (all : List Oper) (t : Tm) (s : St) (x : Nat × Nat × List Nat) : Bool :=
  match atL x.1 all with
  | none => false
  | some o => match x.2.1 with
    | 0 => match stillA T mk all x.2.2 o t s with | some v => isV mk t v o.dst | none => false
    | 1 => match freA T mk all x.2.2 o t with
      | some (some (m, ob)) => match o.dst with
        | some d => match t.get mk d with
          | some u => match s.h.get (nameOf u) with | some ob' => bif beqV (m (nameOf u)) u then beqO ob ob' else false | none => false
          | none => false
        | none => false
      | some none => isV mk t (.tup []) o.dst
      | none => false
    | _ => false
def allAgain (T : Tab) (mk : Nat) (all : List Oper) (t : Tm) (s : St) (l : List (Nat × Nat × List Nat)) : Bool :=
  List.rec true (fun x _ ih => bif againB T mk all t s x then ih else false) l
def checkK (T : Tab) (fl : β) (mk : Nat) (all : List Oper) (rc : List (Nat × Nat × List Nat)) (k : Tm → St → β) (t : Tm) (s : St) : β := bif allAgain T mk all t s rc then k t s else fl
def effStep (call : CallF β) (mk : Nat) (all : List Oper) (see : List Nat) (o : Oper) (t : Tm) (s : St) (k : Tm → St → β) : β :=
  match wantA mk all t o.guard with
  | some true => opK o.op T fl conj call s (evS see mk t) fun v s => putK mk o.dst v t fun t => k t s
  | some false => putK mk o.dst (.tup []) t fun t => k t s
  | none => fl
def freStep (mk : Nat) (all : List Oper) (see : List Nat) (o : Oper) (t : Tm) (s : St) (k : Tm → St → β) : β :=
  match freA T mk all see o t with
  | some (some (m, ob)) => putK mk o.dst (m s.nx) t fun t => k t (s.new ob)
  | some none => putK mk o.dst (.tup []) t fun t => k t s
  | none => fl
def stillStep (mk : Nat) (all : List Oper) (see : List Nat) (o : Oper) (t : Tm) (s : St) (k : Tm → St → β) : β :=
  match stillA T mk all see o t s with
  | some v => putK mk o.dst v t fun t => k t s
  | none => fl
def drawStep (call : CallF β) (mk : Nat) (all : List Oper) (p : PS) (t : Tm) (s : St) (k : Tm → St → β) : β :=
  match atL p.i all with
  | none => fl
  | some o => match p.c with
    | 0 => stillStep T fl mk all p.see o t s k
    | 1 => freStep T fl mk all p.see o t s (checkK T fl mk all p.rc k)
    | _ => effStep T fl conj call mk all p.see o t s (checkK T fl mk all p.rc k)
def drawF (call : CallF β) (mk : Nat) (all : List Oper) (l : List PS) : Tm → St → (Tm → St → β) → β :=
  List.rec (fun t s k => k t s) (fun p _ ih t s k => drawStep T fl conj call mk all p t s fun t s => ih t s k) l
abbrev CodeR (β : Type) := Code → Tm → St → (Ex → Tm → St → β) → β
abbrev CodeK (β : Type) := Tab → β → (β → β → β) → CallF β → Nat → Plans → CodeR β → Tm → St → (Ex → Tm → St → β) → β
def zSkip : CodeK β := fun _ _ _ _ _ _ _ t s k => k .normal t s
def zFail : CodeK β := fun _ fl _ _ _ _ _ _ _ _ => fl
def planK (k : List PS → β) (fl : β) : Option (List PS) → β | some l => k l | none => fl
def zRegion (id : Nat) (ops : Array Oper) (draw : Bool) : CodeK β := fun T fl conj call mk pl _ t s k =>
  @Bool.rec (fun _ => β) (opsF T fl conj call mk ops.toList ops.toList t.fresh s (k .normal)) (planK (fun l => drawF T fl conj call mk ops.toList l t.fresh s (k .normal)) fl (pl id)) draw
def seqK (rec : CodeR β) (b : Code) (k : Ex → Tm → St → β) : Ex → Tm → St → β := fun e t s => match e with | .normal => rec b t s k | .exit j => k (.exit j) t s | .ret => k .ret t s
def zSeq (a b : Code) : CodeK β := fun _ _ _ _ _ _ rec t s k => rec a t s (seqK rec b k)
def condB (fl : β) (conj : β → β → β) (mk : Nat) (x : Operand) (rec : CodeR β) (a b : Code) (t : Tm) (s : St) (k : Ex → Tm → St → β) : AV → β
  | .bool true => rec a t s k
  | .bool false => rec b t s k
  | v => bif isKu .b v then conj (learnK mk x (.bool true) t fun t => rec a t s k) (learnK mk x (.bool false) t fun t => rec b t s k) else fl
def zCond (x : Operand) (a b : Code) : CodeK β := fun _ fl conj _ mk _ rec t s k => condB fl conj mk x rec a b t s k (evA mk t x)
def blockK (id : Nat) (k : Ex → Tm → St → β) : Ex → Tm → St → β := fun e t s => match e with | .exit j => bif Nat.beq j id then k .normal t s else k (.exit j) t s | .normal => k .normal t s | .ret => k .ret t s
def zBlock (id : Nat) (a : Code) : CodeK β := fun _ _ _ _ _ _ rec t s k => rec a t s (blockK id k)
def zLoop (a : Code) : CodeK β := fun _ _ _ _ _ _ rec t s k => rec a t s (seqK rec (.loop a) k)
def zExit (id : Nat) : CodeK β := fun _ _ _ _ _ _ _ t s k => k (.exit id) t s
def zRet : CodeK β := fun _ _ _ _ _ _ _ t s k => k .ret t s
def codeK (c : Code) : CodeK β := Code.rec
  zSkip
  (fun id ops d => zRegion id ops d)
  (fun a b _ _ => zSeq a b)
  (fun x a b _ _ => zCond x a b)
  (fun id a _ => zBlock id a)
  (fun a _ => zLoop a)
  (fun _ _ _ _ _ _ => zFail)
  (fun id => zExit id)
  (fun _ _ => zFail)
  (fun _ => zSkip)
  (fun _ => zFail)
  zRet
  (fun _ => zFail) c
def codeF (call : CallF β) (mk : Nat) (pl : Plans) (n : Nat) : CodeR β :=
  Nat.rec (fun _ _ _ _ => fl) (fun _ ih c => codeK c T fl conj call mk pl ih) n
def toTr : List AV → Nat → Tr AV → Tr AV
  | [], _, t => t
  | v :: r, i, t => toTr r (i + 1) (t.set i v)
def resOne (mk : Nat) (s : St) (t : Tm) : ResultVar → Option AV
  | .tmp i => t.get mk i
  | .cell a ty => match t.get mk a with | some v => oLoad T s ty v | none => none
def resL (mk : Nat) (s : St) (t : Tm) : List ResultVar → Option (List AV)
  | [] => some []
  | r :: q => match resOne T mk s t r, resL mk s t q with | some v, some l => some (v :: l) | _, _ => none
def resA (mk : Nat) (s : St) (t : Tm) (rs : List ResultVar) : Option AV :=
  match resL T mk s t rs with
  | some [v] => some v
  | some l => some (.tup l)
  | none => none
def exOk : Ex → Bool | .normal => true | .ret => true | .exit _ => false
def resK (mk : Nat) (rs : List ResultVar) (k : AV → St → β) (e : Ex) (t : Tm) (s : St) : β :=
  bif exOk e then (match resA T mk s t rs with | some v => k v s | none => fl) else fl
def bodyF (fuel : Nat) (ih : CallF β) (args : List AV) (s : St) (k : AV → St → β) (f : Nat) (fn : Func) : β :=
  match fn.body with
  | some c => codeF T fl conj ih (T.mask f) (T.plan f) fuel c { loc := [], far := toTr args 0 .e } s (resK T fl (T.mask f) fn.results.toList k)
  | none => fl
def callF (hook : Nat → Option (List AV → St → (AV → St → β) → β)) (fuel : Nat) (n : Nat) : CallF β :=
  Nat.rec (fun _ _ _ _ => fl) (fun _ ih f args s k =>
    match hook f with
    | some h => h args s k
    | none => match T.func f with
      | some fn => bodyF T fl conj fuel ih args s k f fn
      | none => fl) n
end
/-! ### What is asked of the code once for all -/
def dstOk (nt : Nat) : List Oper → Bool
  | [] => true
  | o :: r => bif (match o.dst with | some d => Nat.ble (d + 1) nt | none => true) then dstOk nt r else false
/-- What is known of an operation that the plan has passed: its number, those that come up before it, its slot, what it looks at, its kind. -/
structure Ent' where
  i : Nat
  anc : Nat
  dst : Option Nat
  see : List Nat
  c : Nat
def getEnt (i : Nat) : List Ent' → Option Ent'
  | [] => none
  | e :: r => bif Nat.beq e.i i then some e else getEnt i r
def ancOf (pre : List Ent') : List Edge → Option Nat
  | [] => some 0
  | e :: r => bif Region.binds .any e then (match getEnt e.on pre, ancOf pre r with
      | some x, some m => some (Nat.lor (Nat.lor (Nat.pow 2 e.on) x.anc) m)
      | _, _ => none) else ancOf pre r
def apartB (d : Option Nat) (see : List Nat) (d' : Option Nat) : Bool := match d' with
  | none => true
  | some d' => bif memB d' see then false else (match d with | some d => !(Nat.beq d d') | none => true)
/-- Is 'x' behind all that has an effect? -/
def aliveB (x : Ent') (m : Nat) (pre : List Ent') : Bool := bif bitN m x.i then false else pre.all fun y => bif Nat.beq y.c 2 then !(bitN y.anc x.i) else true
def rcB (x : Ent') (l : List (Nat × Nat × List Nat)) : Bool := l.any fun z => bif Nat.beq z.1 x.i then bif Nat.beq z.2.1 x.c then decide (z.2.2 = x.see) else false else false
def seeOk (pre : List Ent') (anc : Nat) (see : List Nat) : Bool := pre.all fun y => match y.dst with | some d => bif memB d see then bitN anc y.i else true | none => true
def guardOk (ops : List Oper) (see : List Nat) : Option (Nat × Bool) → Bool
  | none => true
  | some (j, _) => match atL j ops with | some g => (match g.dst with | some d => memB d see | none => false) | none => false
def stepOk (nt : Nat) (ops : List Oper) (pre : List Ent') (p : PS) (o : Oper) (anc : Nat) : Bool :=
  (match o.dst with | some d => Nat.ble (d + 1) nt | none => true) &&
  (pre.all fun x => !(Nat.beq x.i p.i) && (apartB x.dst [] o.dst && (bif (bif Nat.beq p.c 2 then bitN anc x.i else false) then true else apartB none x.see o.dst))) &&
  (bif Nat.beq p.c 2 then true else apartB none p.see o.dst) && seeOk pre anc p.see && guardOk ops p.see o.guard &&
  (pre.all fun y => bif Nat.beq y.c 2 then bitN anc y.i else true) &&
  (match p.c with
   | 0 => true
   | 1 => pre.all fun x => bif Nat.beq x.c 2 then true else bif aliveB x 0 pre then rcB x p.rc else true
   | 2 => pre.all fun x => bif Nat.beq x.c 2 then true else bif aliveB x anc pre then rcB x p.rc else true
   | _ => false)
def planOk (nt : Nat) (ops : List Oper) : List PS → List Ent' → Bool
  | [], pre => (List.range ops.length).all fun i => (getEnt i pre).isSome
  | p :: r, pre => match atL p.i ops with
    | none => false
    | some o => match ancOf pre o.after.toList with
      | none => false
      | some anc => bif stepOk nt ops pre p o anc then planOk nt ops r (⟨p.i, anc, o.dst, p.see, p.c⟩ :: pre) else false
def codeOk (pl : Plans) (nt : Nat) : Code → Bool
  | .region id ops draw => bif draw then (match pl id with | some l => planOk nt ops.toList l [] | none => true) else dstOk nt ops.toList
  | .seq a b => bif codeOk pl nt a then codeOk pl nt b else false
  | .cond _ a b => bif codeOk pl nt a then codeOk pl nt b else false
  | .block _ a => codeOk pl nt a
  | .loop a => codeOk pl nt a
  | _ => true
end
end Go.Proofs.YtkmocipdekogkaaGreatDoor
