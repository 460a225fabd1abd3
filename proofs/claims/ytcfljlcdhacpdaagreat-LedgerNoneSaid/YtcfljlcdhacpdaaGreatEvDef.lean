/- A deterministic evaluator of the model's code over an abstract memory: definitions alone. -/
import Derived.AtR
namespace Go.Ev

/-! ## A table of numbers -/

inductive Tr (α : Type) where
  | lf
  | nd (v : Option α) (l r : Tr α)

noncomputable def Tr.get {α : Type} (t : Tr α) : Nat → Option α :=
  Tr.rec (motive := fun _ => Nat → Option α) (fun _ => none)
    (fun v _ _ gl gr k => Bool.rec (motive := fun _ => Option α)
      (Bool.rec (motive := fun _ => Option α) (gr (Nat.pred (Nat.div k 2))) (gl (Nat.div k 2)) (Nat.beq (Nat.mod k 2) 1))
      v (Nat.beq k 0)) t
noncomputable def Tr.single {α : Type} (x : Option α) (f : Nat) : Nat → Tr α :=
  Nat.rec (motive := fun _ => Nat → Tr α) (fun _ => .lf)
    (fun _ ih k => Bool.rec (motive := fun _ => Tr α)
      (Bool.rec (motive := fun _ => Tr α) (.nd none .lf (ih (Nat.pred (Nat.div k 2)))) (.nd none (ih (Nat.div k 2)) .lf) (Nat.beq (Nat.mod k 2) 1))
      (.nd x .lf .lf) (Nat.beq k 0)) f
noncomputable def Tr.set {α : Type} (x : Option α) (t : Tr α) : Nat → Tr α :=
  Tr.rec (motive := fun _ => Nat → Tr α) (fun k => Tr.single x 40 k)
    (fun v l r gl gr k => Bool.rec (motive := fun _ => Tr α)
      (Bool.rec (motive := fun _ => Tr α) (.nd v l (gr (Nat.pred (Nat.div k 2)))) (.nd v (gl (Nat.div k 2)) r) (Nat.beq (Nat.mod k 2) 1))
      (.nd x l r) (Nat.beq k 0)) t

noncomputable def Tr.put {α : Type} (t : Tr α) (k : Nat) (x : α) : Tr α := Tr.set (some x) t k
noncomputable def Tr.del {α : Type} (t : Tr α) (k : Nat) : Tr α := Tr.set none t k
noncomputable def Tr.puts {α : Type} (t : Tr α) (k : Nat) : List α → Tr α
  | [] => t
  | x :: l => Tr.puts (t.put k x) (k + 1) l
noncomputable def Tr.gets {α : Type} (t : Tr α) (k : Nat) : Nat → Option (List α)
  | 0 => some []
  | m + 1 => match t.get k with
    | some x => match Tr.gets t (k + 1) m with
      | some l => some (x :: l)
      | none => none
    | none => none

/-! ## Values, objects, memory -/

inductive AVal where
  | undef
  | bool (b : Bool)
  | int (k : IntKind) (m : Int)
  | str (s : List Nat)
  | ptr0
  | ptr (b o : Nat)
  | sl0
  | sl (b o len cap : Nat)
  | so (b o len es : Nat)
  | slE
  | map0
  | map (b : Nat)
  | fn (f : Fn) (first captured : List AVal)
  | fn0
  | ifc (t : Nat) (v : AVal)
  | ifc0
  | agg (l : List AVal)
  | tup (l : List AVal)
  | raw (i : Nat)
  | glob (g off : Nat)

/-- a call that was put off -/
structure ADef where
  fn : Fn
  captured : List AVal
  args : List AVal

inductive ADefer where
  | call (d : ADef)
  | collected (r : Nat)

structure ALoop where
  state : LoopState
  pending : Option Code
  fn : FuncId
  tmps : Tr AVal
  nt : Nat
  params : Array Tmp
  assign : Code
  body : Code
  defers : Nat

structure AEntry where
  key : AVal
  val : AVal
  born : Nat

inductive AObj where
  | cells (elem : Nat) (opn : Bool) (sz : Nat) (c : Tr AVal)
  | map (es : List AEntry) (clock : Nat)
  | mapIter (m : Option Nat) (since : Nat) (seen : List Nat) (stepped : Nat)
  | strIter (s : List Nat) (pos : Nat)
  | loop (l : ALoop)
  | deferred (ds : Option (List ADefer))

structure AH where
  next : Nat
  m : Tr AObj

noncomputable def AH.new (h : AH) (o : AObj) : AH := { next := h.next + 1, m := h.m.put h.next o }
noncomputable def AH.upd (h : AH) (b : Nat) (o : AObj) : AH := { next := h.next, m := h.m.put b o }

/-- one cell holds such a value -/
noncomputable def AVal.one : AVal → Bool
  | .undef => false
  | .agg _ => false
  | .tup _ => false
  | .raw _ => false
  | _ => true

noncomputable def AVal.cells : AVal → List AVal
  | .agg l => l
  | v => [v]

noncomputable def ofLeaf (v : Value) : AVal :=
  match v with
  | .bool b => .bool b
  | .int k m => .int k m
  | .string s => .str (s.data.toList.map UInt8.toNat)
  | .pointer a => match a with | none => .ptr0 | some _ => .undef
  | .slice a n c => match a, n, c with | none, 0, 0 => .sl0 | _, _, _ => .undef
  | .map r => match r with | none => .map0 | some _ => .undef
  | .nilFunc => .fn0
  | .nilIface => .ifc0
  | .func f a b => match f, a.toList, b.toList with
    | .func g, [], [] => .fn (.func g) [] []
    | _, _, _ => .undef
  | _ => .undef

noncomputable def ofValue (v : Value) : AVal :=
  match v with
  | .agg cs => .agg (cs.toList.map ofLeaf)
  | .tuple cs => match cs.toList with | [] => .tup [] | _ => .undef
  | v => ofLeaf v

mutual
noncomputable def AVal.same : AVal → AVal → Bool
  | .bool a, .bool b => a == b
  | .int k a, .int k' b => decide (k = k') && decide (a = b)
  | .str a, .str b => decide (a = b)
  | .ptr0, .ptr0 => true
  | .ptr a b, .ptr c d => Nat.beq a c && Nat.beq b d
  | .sl0, .sl0 => true
  | .sl a b c d, .sl a' b' c' d' => Nat.beq a a' && Nat.beq b b' && Nat.beq c c' && Nat.beq d d'
  | .so a b c d, .so a' b' c' d' => Nat.beq a a' && Nat.beq b b' && Nat.beq c c' && Nat.beq d d'
  | .slE, .slE => true
  | .map0, .map0 => true
  | .map a, .map b => Nat.beq a b
  | .fn f a b, .fn f' a' b' => decide (f = f') && AVal.sames a a' && AVal.sames b b'
  | .fn0, .fn0 => true
  | .ifc t v, .ifc t' v' => Nat.beq t t' && AVal.same v v'
  | .ifc0, .ifc0 => true
  | .agg a, .agg b => AVal.sames a b
  | .tup a, .tup b => AVal.sames a b
  | .raw a, .raw b => Nat.beq a b
  | .glob a b, .glob c d => Nat.beq a c && Nat.beq b d
  | _, _ => false
noncomputable def AVal.sames : List AVal → List AVal → Bool
  | [], [] => true
  | a :: l, b :: m => AVal.same a b && AVal.sames l m
  | _, _ => false
end

/-! ## What an operation does -/

section
variable (P : Program) (orc : BinOp → Nat → AVal → Option Bool)

abbrev Ev := Operand → AVal

noncomputable def ev (T : Tr AVal) : Operand → AVal
  | .tmp t => match T.get t with | some v => v | none => .undef
  | .const v => ofValue v
  | .global g => .glob g 0
  | .func f => .fn (.func f) [] []

noncomputable def szOf (t : TypeId) : Option Nat := match P.info? t with | some i => some i.size | none => none
noncomputable def zeroOf (t : TypeId) : Option AVal :=
  match P.info? t with
  | some i => match i.zero with | some z => some (ofValue z) | none => none
  | none => none
noncomputable def aggT (t : TypeId) : Option Bool :=
  match P.underlying t with
  | some (.struct _) => some true
  | some (.array _ _) => some true
  | some _ => some false
  | none => none

noncomputable def limit : IntKind → Nat
  | .i8 => 128 | .i16 => 32768 | .i32 => 2147483648 | .i64 => 9223372036854775808
  | .u8 => 256 | .u16 => 65536 | .u32 => 4294967296 | .u64 => 18446744073709551616
noncomputable def wrapA (k : IntKind) (m : Int) : AVal :=
  match m with
  | .ofNat p => match Nat.blt p (limit k) with | true => .int k (.ofNat p) | false => .int k (k.wrap (.ofNat p))
  | .negSucc p => .int k (k.wrap (.negSucc p))

noncomputable def aload (h : AH) (t : TypeId) (b o : Nat) : Option AVal :=
  match h.m.get b with
  | some (.cells _ _ _ c) =>
    match aggT P t with
    | some true => match szOf P t with
      | some s => match c.gets o s with | some l => some (.agg l) | none => none
      | none => none
    | some false => c.get o
    | none => none
  | _ => none

noncomputable def storeA (c : Tr AVal) (o : Nat) : List AVal → Option (Tr AVal)
  | [] => some c
  | x :: l => match c.get o with
    | some _ => match x.one with
      | true => storeA (c.put o x) (o + 1) l
      | false => none
    | none => none

noncomputable def astore (h : AH) (t : TypeId) (b o : Nat) (v : AVal) : Option AH :=
  match h.m.get b, szOf P t with
  | some (.cells e op s c), some z =>
    match Nat.beq v.cells.length z with
    | true => match storeA c o v.cells with
      | some c' => some (h.upd b (.cells e op s c'))
      | none => none
    | false => none
  | _, _ => none

noncomputable def newCells (h : AH) (elem : Nat) (opn : Bool) (l : List AVal) : AH := h.new (.cells elem opn l.length (Tr.puts .lf 0 l))

noncomputable def bytesLt : List Nat → List Nat → Bool
  | _, [] => false
  | [], _ :: _ => true
  | a :: x, b :: y => Nat.blt a b || (Nat.beq a b && bytesLt x y)

noncomputable def bytesEq : List Nat → List Nat → Bool
  | [], [] => true
  | a :: x, b :: y => Nat.beq a b && bytesEq x y
  | _, _ => false

noncomputable def strOp (op : BinOp) (x y : List Nat) : Option AVal :=
  match op with
  | .add => match Nat.blt (x.length + y.length) 1000000 with | true => some (.str (x ++ y)) | false => none
  | .eql => some (.bool (bytesEq x y))
  | .neq => some (.bool !(bytesEq x y))
  | .lss => some (.bool (bytesLt x y))
  | .leq => some (.bool (bytesLt x y || bytesEq x y))
  | .gtr => some (.bool !(bytesLt x y || bytesEq x y))
  | .geq => some (.bool !(bytesLt x y))
  | _ => none

noncomputable def partA (t : TypeId) (l : List AVal) (off : Nat) : Option AVal :=
  match aggT P t, szOf P t with
  | some true, some s => some (.agg ((l.drop off).take s))
  | some false, _ => (l.drop off).head?
  | _, _ => none

/-- '==' on values, as deep as d; no interface values of two kinds of nil -/
noncomputable def eqA : Nat → TypeId → AVal → AVal → Option Bool
  | 0, _, _, _ => none
  | d + 1, t, x, y =>
    match P.underlying t, x, y with
    | some .bool, .bool a, .bool b => some (a == b)
    | some (.int _), .int k a, .int k' b => match decide (k = k') with | true => some (decide (a = b)) | false => none
    | some .string, .str a, .str b => some (bytesEq a b)
    | some (.pointer _), .ptr0, .ptr0 => some true
    | some (.pointer _), .ptr0, .ptr _ _ => some false
    | some (.pointer _), .ptr _ _, .ptr0 => some false
    | some (.pointer e), .ptr a i, .ptr b j => match szOf P e, Nat.beq a b with
      | some (_ + 1), true => some (Nat.beq i j)
      | _, _ => none
    | some (.interface _), .ifc0, .ifc0 => some true
    | some (.interface _), .ifc0, .ifc _ _ => some false
    | some (.interface _), .ifc _ _, .ifc0 => some false
    | some (.interface _), .ifc tx vx, .ifc ty vy =>
      match Nat.beq tx ty with
      | false => some false
      | true => match P.info? tx with
        | some i => match i.comparable with
          | true => eqA d tx vx vy
          | false => none
        | none => none
    | some (.struct fs), .agg xs, .agg ys =>
      match P.stoodInHeld t with
      | true => none
      | false => eqFields (eqA d) xs ys fs.toList
    | some (.slice _), .sl0, .sl0 => some true
    | some (.slice _), .sl0, .sl _ _ _ _ => some false
    | some (.slice _), .sl _ _ _ _, .sl0 => some false
    | some (.slice _), .sl0, .so _ _ _ _ => some false
    | some (.slice _), .so _ _ _ _, .sl0 => some false
    | some (.slice _), .sl0, .slE => some false
    | some (.slice _), .slE, .sl0 => some false
    | some (.map _ _), .map0, .map0 => some true
    | some (.map _ _), .map0, .map _ => some false
    | some (.map _ _), .map _, .map0 => some false
    | some (.func _ _ _), .fn0, .fn0 => some true
    | some (.func _ _ _), .fn0, .fn _ _ _ => some false
    | some (.func _ _ _), .fn _ _ _, .fn0 => some false
    | _, _, _ => none
where
  eqFields (rec : TypeId → AVal → AVal → Option Bool) (xs ys : List AVal) : List Field → Option Bool
    | [] => some true
    | f :: fs =>
      match decide (f.name = "_") with
      | true => eqFields rec xs ys fs
      | false =>
        match partA P f.type xs f.offset, partA P f.type ys f.offset with
        | some a, some b => match rec f.type a b with
          | some true => eqFields rec xs ys fs
          | r => r
        | _, _ => none

noncomputable def intOp (op : BinOp) (k : IntKind) (a b : Int) : Option AVal :=
  match op with
  | .add => some (wrapA k (a + b))
  | .sub => some (wrapA k (a - b))
  | .mul => some (wrapA k (a * b))
  | .quo => match decide (b = 0) with | true => none | false => some (wrapA k (a.tdiv b))
  | .rem => match decide (b = 0) with | true => none | false => some (.int k (a.tmod b))
  | .and => some (wrapA k ((BitVec.ofInt k.bits a &&& BitVec.ofInt k.bits b).toNat))
  | .or => some (wrapA k ((BitVec.ofInt k.bits a ||| BitVec.ofInt k.bits b).toNat))
  | .xor => some (wrapA k ((BitVec.ofInt k.bits a ^^^ BitVec.ofInt k.bits b).toNat))
  | .andNot => some (wrapA k ((BitVec.ofInt k.bits a &&& ~~~ BitVec.ofInt k.bits b).toNat))
  | .eql => some (.bool (decide (a = b)))
  | .neq => some (.bool (!decide (a = b)))
  | .lss => some (.bool (decide (a < b)))
  | .leq => some (.bool (decide (a ≤ b)))
  | .gtr => some (.bool (decide (b < a)))
  | .geq => some (.bool (decide (b ≤ a)))
  | _ => none

noncomputable def negIf (op : BinOp) : Option Bool → Option AVal
  | some r => match op with | .eql => some (.bool r) | .neq => some (.bool !r) | _ => none
  | none => none

noncomputable def isTmp : Operand → Bool | .const _ => false | _ => true

/-- '==' and '!=' beyond numbers and strings -/
noncomputable def eqlA (op : BinOp) (t : TypeId) (x y : Operand) (a b : AVal) : Option AVal :=
  match a, b with
  | .ifc0, .ifc0 => match isTmp x && isTmp y with
    | true => none
    | false => negIf op (eqA P 50 t a b)
  | .agg _, .agg _ => match P.eqGuardType P.depth t with
    | true => none
    | false => negIf op (eqA P 50 t a b)
  | _, _ => negIf op (eqA P 50 t a b)

noncomputable def binA (op : BinOp) (t : TypeId) (x y : Operand) (a b : AVal) : Option AVal :=
  match a, b with
  | .int k p, .int k' q =>
    match op with
    | .shl => match q with | .ofNat q => some (wrapA k (p * (2 ^ (min q k.bits) : Nat))) | .negSucc _ => none
    | .shr => match q with | .ofNat q => some (.int k (p.fdiv (2 ^ (min q k.bits) : Nat))) | .negSucc _ => none
    | _ => match decide (k = k') with
      | true => intOp op k p q
      | false => none
  | .str s, .str s' => strOp op s s'
  | .raw i, c => match orc op i c with | some r => some (.bool r) | none => none
  | _, _ => eqlA P op t x y a b

noncomputable def unA (op : UnOp) (a : AVal) : Option AVal :=
  match op, a with
  | .neg, .int k m => some (wrapA k (0 - m))
  | .xor, .int k m => some (wrapA k ((BitVec.ofInt k.bits (if k.signed then -1 else k.max) ^^^ BitVec.ofInt k.bits m).toNat))
  | .not, .bool b => some (.bool !b)
  | _, _ => none

noncomputable def byteCells : List AVal → Option (List Nat)
  | [] => some []
  | .int .u8 m :: l => match byteCells l with | some r => some (m.toNat % 256 :: r) | none => none
  | _ => none

noncomputable def cellsOf (s : List Nat) : List AVal := s.map fun (c : Nat) => AVal.int .u8 (c : Int)

/-- where a slice lies -/
noncomputable def slAt : AVal → Option (Nat × Nat × Nat)
  | .sl b o len _ => some (b, o, len)
  | .so b o len _ => some (b, o, len)
  | _ => none

/-- a conversion that makes no memory -/
noncomputable def convA (h : AH) (src dst : TypeId) (x : AVal) : Option AVal :=
  match P.underlying src, P.underlying dst, x with
  | some _, some (.int k), .int _ m => some (wrapA k m)
  | some _, some .string, .str s => some (.str s)
  | some (.slice e), some .string, x =>
    match P.underlying e with
    | some (.int .u8) =>
      match x with
      | .sl0 => some (.str [])
      | .slE => some (.str [])
      | x => match slAt x with
        | some (b, o, len) =>
          match h.m.get b with
          | some (.cells _ _ _ c) =>
            match c.gets o len with
            | some l => match byteCells l with
              | some l => some (.str l)
              | none => none
            | none => none
          | _ => none
        | none => none
    | _ => none
  | _, _, _ => none

noncomputable def lenOfA : AVal → Option Nat
  | .sl0 => some 0
  | .slE => some 0
  | .sl _ _ m _ => some m
  | .so _ _ m _ => some m
  | .str s => some s.length
  | _ => none

noncomputable def firstA (h : AH) (size m : Nat) : AVal → Option (List AVal)
  | .sl0 => some []
  | .slE => match m with | 0 => some [] | _ => none
  | .sl b o _ _ => match h.m.get b with | some (.cells _ _ _ c) => c.gets o (m * size) | _ => none
  | .so b o _ _ => match h.m.get b with | some (.cells _ _ _ c) => c.gets o (m * size) | _ => none
  | .str s => some (cellsOf (s.take m))
  | _ => none

noncomputable def lenA (h : AH) (argTypes : Array TypeId) (x : AVal) : Option AVal :=
  match argTypes[0]? with
  | none => none
  | some t =>
  match P.underlying t, x with
  | some .string, .str s => some (.int .i64 s.length)
  | some (.array m _), _ => some (.int .i64 m)
  | some (.pointer arr), _ => match P.underlying arr with | some (.array m _) => some (.int .i64 m) | _ => none
  | some (.slice _), .sl0 => some (.int .i64 0)
  | some (.slice _), .slE => some (.int .i64 0)
  | some (.slice _), .sl _ _ m _ => some (.int .i64 m)
  | some (.slice _), .so _ _ m _ => some (.int .i64 m)
  | some (.map _ _), .map0 => some (.int .i64 0)
  | some (.map _ _), .map b => match h.m.get b with | some (.map es _) => some (.int .i64 es.length) | _ => none
  | _, _ => none

noncomputable def max2A : AVal → AVal → Option AVal
  | .int k x, .int _ y => some (.int k (if y > x then y else x))
  | _, _ => none
noncomputable def min2A : AVal → AVal → Option AVal
  | .int k x, .int _ y => some (.int k (if y < x then y else x))
  | _, _ => none
noncomputable def foldA (f : AVal → AVal → Option AVal) : AVal → List AVal → Option AVal
  | x, [] => some x
  | x, y :: l => match f x y with | some z => foldA f z l | none => none

noncomputable def natA : AVal → Option Nat
  | .int _ m => match decide (0 ≤ m) with | true => some m.toNat | false => none
  | _ => none
noncomputable def natOr (d : Nat) : Option AVal → Option Nat
  | none => some d
  | some v => natA v

noncomputable def sliceA (t : TypeId) (x : AVal) (lo hi mx : Option AVal) : Option AVal :=
  match natOr 0 lo, P.underlying t, x with
  | some l, some .string, .str s =>
    match mx, natOr s.length hi with
    | none, some hh => match Nat.ble l hh && Nat.ble hh s.length with
      | true => some (.str ((s.take hh).drop l))
      | false => none
    | _, _ => none
  | some 0, some (.slice e), .sl0 =>
    match natOr 0 hi, mx, szOf P e with
    | some 0, none, some _ => some .sl0
    | _, _, _ => none
  | some 0, some (.slice e), .slE =>
    match natOr 0 hi, mx, szOf P e with
    | some 0, none, some _ => some .slE
    | _, _, _ => none
  | some l, some (.slice elem), .sl b o len cap =>
    match szOf P elem, natOr len hi, natOr cap mx with
    | some size, some hh, some m =>
      match Nat.ble l hh && Nat.ble hh m && Nat.ble m cap && (match mx, hi with | some _, none => false | _, _ => true) with
      | true => some (.sl b (match Nat.beq m l with | true => o | false => o + l * size) (hh - l) (m - l))
      | false => none
    | _, _, _ => none
  | some l, some (.slice elem), .so b o len es =>
    match szOf P elem, natOr len hi with
    | some size, some hh =>
      match mx with
      | none =>
        match Nat.ble l hh && Nat.ble hh len && Nat.beq size es with
        | true => match Nat.beq l len && Nat.blt 0 l with
          | true => some .slE
          | false => some (.so b (o + l * size) (hh - l) es)
        | false => none
      | some mv => match natA mv, hi with
        | some m, some _ => match Nat.ble l hh && Nat.ble hh m && Nat.ble m len with
          | true => some (.sl b (match Nat.beq m l with | true => o | false => o + l * size) (hh - l) (m - l))
          | false => none
        | _, _ => none
    | _, _ => none
  | some l, some (.array m elem), .ptr b o =>
    match szOf P elem, natOr m hi, mx with
    | some size, some hh, none => match Nat.ble l hh && Nat.ble hh m with
      | true => some (.sl b (match Nat.beq m l with | true => o | false => o + l * size) (hh - l) (m - l))
      | false => none
    | _, _, _ => none
  | _, _, _ => none

noncomputable def indexAddrA (t : TypeId) (x i : AVal) : Option AVal :=
  match natA i, P.underlying t, x with
  | some m, some (.array len elem), .ptr b o =>
    match szOf P elem, Nat.blt m len with
    | some s, true => some (.ptr b (o + m * s))
    | _, _ => none
  | some m, some (.slice elem), .sl b o len _ =>
    match szOf P elem, Nat.blt m len with
    | some s, true => some (.ptr b (o + m * s))
    | _, _ => none
  | some m, some (.slice elem), .so b o len _ =>
    match szOf P elem, Nat.blt m len with
    | some s, true => some (.ptr b (o + m * s))
    | _, _ => none
  | _, _, _ => none

noncomputable def indexA (t : TypeId) (x i : AVal) : Option AVal :=
  match natA i, P.underlying t, x with
  | some m, some (.array len elem), .agg cs =>
    match szOf P elem, Nat.blt m len with
    | some s, true => partA P elem cs (m * s)
    | _, _ => none
  | some m, some .string, .str s => match s[m]? with | some c => some (.int .u8 (c : Int)) | none => none
  | _, _, _ => none

noncomputable def findKeyA (kt : TypeId) (k : AVal) : List AEntry → Nat → Option (Option (Nat × AVal))
  | [], _ => some none
  | e :: es, i => match eqA P 50 kt k e.key with
    | some true => some (some (i, e.val))
    | some false => findKeyA kt k es (i + 1)
    | none => none

/-- a key of a plain kind -/
noncomputable def keyOk (t : TypeId) : Bool :=
  match P.underlying t with
  | some (.int _) => true
  | some .string => true
  | some .bool => true
  | _ => false

noncomputable def lookupA (h : AH) (t : TypeId) (x k : AVal) (commaOk : Bool) : Option AVal :=
  match P.underlying t with
  | some (.map kt et) =>
    match keyOk P kt with
    | false => none
    | true =>
      match (match x with
        | .map0 => some []
        | .map b => match h.m.get b with | some (.map es _) => some es | _ => none
        | _ => none) with
      | none => none
      | some es => match findKeyA P kt k es 0 with
        | some (some (_, v)) => some (match commaOk with | true => .tup [v, .bool true] | false => v)
        | some none => match zeroOf P et with
          | some z => some (match commaOk with | true => .tup [z, .bool false] | false => z)
          | none => none
        | none => none
  | _ => none

noncomputable def assertB (t : TypeId) (x : AVal) (commaOk : Bool) : Option AVal :=
  match x with
  | .ifc t' v =>
    match Nat.beq t' t with
    | true => some (match commaOk with | true => .tup [v, .bool true] | false => v)
    | false => match commaOk, zeroOf P t with
      | true, some z => some (.tup [z, .bool false])
      | _, _ => none
  | .ifc0 => match commaOk, zeroOf P t with
      | true, some z => some (.tup [z, .bool false])
      | _, _ => none
  | _ => none

noncomputable def assertA (t : TypeId) (x : AVal) (commaOk : Bool) : Option AVal :=
  match P.underlying t with
  | some (.interface _) => none
  | some _ => assertB P t x commaOk
  | none => none

noncomputable def fillA (cells : List AVal) (off : Nat) (new : List AVal) : List AVal := cells.take off ++ (new ++ cells.drop (off + new.length))

noncomputable def placesA (t : TypeId) : Option (Nat → Option (Nat × Nat)) :=
  match P.underlying t with
  | some (.struct fs) => match fs.toList.mapM (fun f => (P.info? f.type).map fun i => (f.offset, i.size)) with
    | some l => some fun i => l[i]?
    | none => none
  | some (.array _ e) => match szOf P e with | some s => some fun i => some (i * s, s) | none => none
  | some (.slice e) => match szOf P e with | some s => some fun i => some (i * s, s) | none => none
  | _ => none

noncomputable def fillAll (ev : Ev) (place : Nat → Option (Nat × Nat)) (cells : List AVal) : List (Nat × Operand) → Option (List AVal)
  | [] => some cells
  | (i, x) :: rest =>
    match place i with
    | none => none
    | some (off, size) =>
      match Nat.beq (ev x).cells.length size && Nat.ble (off + size) cells.length && (match ev x with | .undef => false | .raw _ => false | _ => true) with
      | true => fillAll ev place (fillA cells off (ev x).cells) rest
      | false => none

noncomputable def repeatL (z : List AVal) : Nat → List AVal
  | 0 => []
  | m + 1 => z ++ repeatL z m

noncomputable def fieldAddrA (s : TypeId) (x : AVal) (f : Nat) : Option AVal :=
  match P.underlying s, x with
  | some (.struct fs), .ptr b o => match fs[f]? with
    | some fd => match szOf P fd.type with
      | some (_ + 1) => some (.ptr b (o + fd.offset))
      | _ => none
    | none => none
  | _, _ => none

/-- WHAT ONLY READS: the value; none: it is none of these, or not known. -/
noncomputable def rdOp (h : AH) (ev : Ev) (op : Op) : Option AVal :=
  match op with
  | .move x => some (ev x)
  | .assign x => some (ev x)
  | .pick c a b => match ev c with | .bool true => some (ev a) | .bool false => some (ev b) | _ => none
  | .build t parts => match P.underlying t, zeroOf P t, placesA P t with
    | some (.slice _), _, _ => none
    | some _, some (.agg z), some pl => match fillAll ev pl z parts.toList with
      | some l => some (.agg l)
      | none => none
    | _, _, _ => none
  | .load t a => match ev a with
    | .ptr b o => aload P h t b o
    | _ => none
  | .nilCheck x => match ev x with
    | .ptr b o => some (.ptr b o)
    | .fn (.func f) first cap => some (.fn (.func f) first cap)
    | .ifc t v => some (.ifc t v)
    | _ => none
  | .binOp op t x y _ => binA P orc op t x y (ev x) (ev y)
  | .unOp op _ x => unA op (ev x)
  | .convert s d x => convA P h s d (ev x)
  | .makeInterface t x => match P.underlying t with
    | some (.interface _) => none
    | some _ => some (.ifc t (ev x))
    | none => none
  | .makeFunc fn first cap => match fn with
    | .yield _ => none
    | fn => some (.fn fn (first.toList.map ev) (cap.toList.map ev))
  | .slice t x lo hi mx => sliceA P t (ev x) (lo.map ev) (hi.map ev) (mx.map ev)
  | .fieldAddr s x f => fieldAddrA P s (ev x) f
  | .field t x f => match P.underlying t, ev x with
    | some (.struct fs), .agg l => match fs[f]? with
      | some fd => partA P fd.type l fd.offset
      | none => none
    | _, _ => none
  | .indexAddr t x i => indexAddrA P t (ev x) (ev i)
  | .index t x i => indexA P t (ev x) (ev i)
  | .lookup t x k ok => lookupA P h t (ev x) (ev k) ok
  | .typeAssert x _ t ok => assertA P t (ev x) ok
  | .extract t i => match ev t with | .tup l => l[i]? | _ => none
  | .call c => match c.callee with
    | .builtin .len => match c.args.toList with | [x] => lenA P h c.argTypes (ev x) | _ => none
    | .builtin .max => match c.args.toList with | x :: l => foldA max2A (ev x) (l.map ev) | _ => none
    | .builtin .min => match c.args.toList with | x :: l => foldA min2A (ev x) (l.map ev) | _ => none
    | _ => none
  | _ => none

/-! ## What writes, or makes memory -/

/-- has a type a zero value of its own size? -/
noncomputable def zeroLen (t : TypeId) : Option Unit :=
  match zeroOf P t, szOf P t with
  | some z, some s => match Nat.beq z.cells.length s with | true => some () | false => none
  | _, _ => none

noncomputable def appendA (h : AH) (argTypes : Array TypeId) (s x : AVal) : Option (AVal × AH) :=
  match argTypes[0]?, argTypes[1]? with
  | some st, some xt =>
    match P.underlying st, P.underlying xt with
    | _, some (.int _) => none
    | some (.slice elem), some _ =>
      match P.info? elem, lenOfA x, zeroLen P elem with
      | some info, some m, some _ =>
        match firstA h info.size m x with
        | none => none
        | some new =>
          match Nat.beq new.length (m * info.size) with
          | false => none
          | true =>
          match m with
          | 0 => match s with
            | .sl0 => some (s, h)
            | .slE => some (s, h)
            | .sl _ _ len cap => match Nat.ble len cap with | true => some (s, h) | false => none
            | .so _ _ _ _ => some (s, h)
            | _ => none
          | _ =>
          match s with
          | .sl0 => match Nat.blt (m * info.bytes) 1000000 && Nat.blt m 1000000 with
            | true => some (.so h.next 0 m info.size, newCells h elem true new)
            | false => none
          | .sl b o len cap =>
            match h.m.get b with
            | some (.cells e op sz c) =>
              match Nat.ble (len + m) cap with
              | true => match storeA c (o + len * info.size) new with
                | some c' => some (.sl b o (len + m) cap, h.upd b (.cells e op sz c'))
                | none => none
              | false =>
                match c.gets o (len * info.size), Nat.blt ((len + m) * info.bytes) 1000000 && Nat.blt (len + m) 1000000 with
                | some old, true => some (.so h.next 0 (len + m) info.size, newCells h elem true (old ++ new))
                | _, _ => none
            | _ => none
          | .so b o len es =>
            match h.m.get b with
            | some (.cells e op sz c) =>
              match op && Nat.beq o 0 && Nat.beq sz (len * info.size) && Nat.beq e elem && Nat.beq es info.size && Nat.blt ((len + m) * info.bytes) 1000000 && Nat.blt (len + m) 1000000, new.all AVal.one, c.gets 0 sz with
              | true, true, some _ => some (.so h.next 0 (len + m) es, { next := h.next + 1, m := (h.m.del b).put h.next (.cells elem true (sz + new.length) (Tr.puts c sz new)) })
              | _, _, _ => none
            | _ => none
          | _ => none
      | _, _, _ => none
    | _, _ => none
  | _, _ => none

noncomputable def copyA (h : AH) (argTypes : Array TypeId) (d x : AVal) : Option (AVal × AH) :=
  match argTypes[0]? with
  | none => none
  | some st =>
  match P.underlying st with
  | some (.slice elem) =>
    match szOf P elem, lenOfA d, lenOfA x with
    | some size, some dl, some xl =>
      match firstA h size (Nat.min xl dl) x with
      | none => none
      | some new =>
        match d with
        | .sl0 => some (.int .i64 0, h)
        | .slE => some (.int .i64 0, h)
        | d => match slAt d with
          | some (b, o, _) =>
            match h.m.get b with
            | some (.cells e op m c) =>
              match storeA c o new with
              | some c' => some (.int .i64 (Nat.min xl dl : Nat), h.upd b (.cells e op m c'))
              | none => none
            | _ => none
          | none => none
    | _, _, _ => none
  | _ => none

noncomputable def makeSliceA (h : AH) (t : TypeId) (l c : AVal) : Option (AVal × AH) :=
  match P.underlying t, natA l, natA c with
  | some (.slice e), some l, some c =>
    match P.info? e, zeroOf P e with
    | some info, some z =>
      match Nat.ble l c && Nat.blt (c * info.bytes) 1000000 && Nat.blt c 1000000 && Nat.beq z.cells.length info.size with
      | true => some (.sl h.next 0 l c, newCells h e false (repeatL z.cells c))
      | false => none
    | _, _ => none
  | _, _, _ => none

/-- WHAT WRITES OR MAKES MEMORY, and calls nothing -/
noncomputable def wrOp (h : AH) (ev : Ev) (o : Oper) : Option (AVal × AH) :=
  match o.op with
  | .alloc elem => match zeroOf P elem with
    | some z => some (.ptr h.next 0, newCells h elem false z.cells)
    | none => none
  | .box elem x => match ev x, szOf P elem with
    | .undef, _ => none
    | .raw _, _ => none
    | v, some _ => some (.ptr h.next 0, newCells h elem false v.cells)
    | _, none => none
  | .buildSlice t len parts =>
    match P.underlying t with
    | some (.slice e) =>
      match zeroOf P e, szOf P e, placesA P t with
      | some z, some size, some pl => match Nat.ble (len * size) 100000 && Nat.beq z.cells.length size, fillAll ev pl (repeatL z.cells len) parts.toList with
        | true, some l => some (.sl h.next 0 len len, newCells h e false l)
        | _, _ => none
      | _, _, _ => none
    | _ => none
  | .store t a x => match ev a with
    | .ptr b o => match astore P h t b o (ev x) with | some h => some (.tup [], h) | none => none
    | _ => none
  | .convert s d x => match P.underlying s, P.underlying d, ev x with
    | some _, some (.slice e), .str s => match P.underlying e with
      | some (.int .u8) => match Nat.blt s.length 1000000, szOf P e with
        | true, some 1 => some (.so h.next 0 s.length 1, newCells h e true (cellsOf s))
        | _, _ => none
      | _ => none
    | _, _, _ => none
  | .makeMap _ none => some (.map h.next, h.new (.map [] 0))
  | .makeSlice t l c => makeSliceA P h t (ev l) (ev c)
  | .call c => match c.callee with
    | .builtin .append => match c.args.toList with | [s, x] => appendA P h c.argTypes (ev s) (ev x) | _ => none
    | .builtin .copy => match c.args.toList with | [d, x] => copyA P h c.argTypes (ev d) (ev x) | _ => none
    | _ => none
  | _ => none

end
end Go.Ev
