/- The evaluator's run: regions, code, calls. Definitions alone. -/
import Derived.Test.YtcfljlcdhacpdaaGreatEvDef
namespace Go.Ev

structure FI where
  fn : FuncId
  nt : Nat
  rnd : Option Nat

/-- how the frame was called: plainly; put off, and the caller returns; put off, and the caller panics with a value (caught?) -/
inductive PM where
  | plain
  | dret
  | dpan (v : AVal) (rec : Bool)

structure St where
  T : Tr AVal
  h : AH
  ds : List ADefer
  pm : PM

inductive Ex where
  | normal
  | exit (id : Nat)
  | ret
  | panic (v : AVal)

structure Out where
  ex : Ex
  val : AVal
  st : St

inductive Task where
  | loop (fi : FI) (body : Code)
  | call (f : FuncId) (args : List AVal)
  | dcall (f : FuncId) (args : List AVal)
  | round (l : Nat) (args : List AVal)

inductive PSt where
  | rd (i : Nat)
  | mu (i : Nat) (js : List Nat)
  | al (i : Nat) (js : List Nat)

/-- what a function without a body is -/
inductive Ext where
  | indexByte

section
variable (P : Program) (orc : BinOp → Nat → AVal → Option Bool) (funs : FuncId → Option Func) (exts : FuncId → Option Ext)

/-! ### Functions without a body -/

noncomputable def indexByteA (c : Nat) : List Nat → Nat → Int
  | [], _ => -1
  | x :: l, i => match Nat.beq x c with | true => (i : Int) | false => indexByteA c l (i + 1)

noncomputable def externA (h : AH) (e : Ext) (args : List AVal) : Option (AVal × AH) :=
  match e, args with
  | .indexByte, [.str s, .int .u8 c] => match Nat.blt c.toNat 256 with
    | true => some (.int .i64 (indexByteA c.toNat s 0), h)
    | false => none
  | _, _ => none

/-! ### Calls -/

inductive Inv where
  | val (v : AVal) (h : AH)
  | enter (f : FuncId) (args : List AVal)
  | round (l : Nat) (args : List AVal)

noncomputable def callA (h : AH) (f : FuncId) (args : List AVal) : Option Inv :=
  match exts f with
  | none => some (.enter f args)
  | some e => match externA h e args with
    | some (v, h) => some (.val v h)
    | none => none

noncomputable def invokeA (h : AH) (fn : Fn) (captured args : List AVal) : Option Inv :=
  match fn with
  | .func f => callA exts h f (args ++ captured)
  | .yield l => some (.round l args)
  | _ => none

noncomputable def resolveA (ev : Ev) (c : Call) : Option ADef :=
  match c.callee with
  | .builtin _ => none
  | .invoke _ _ => none
  | .value f => match ev f with
    | .fn fn first captured => some { fn, captured, args := first ++ c.args.toList.map ev }
    | _ => none

/-! ### Operations -/

/-- an operation's end -/
inductive OR where
  | val (v : AVal) (st : St)
  | panic (v : AVal) (st : St)

noncomputable def putT (fi : FI) (T : Tr AVal) (d : Option Tmp) (v : AVal) : Option (Tr AVal) :=
  match d with
  | none => some T
  | some d => match Nat.blt d fi.nt with
    | true => some (T.put d v)
    | false => none

noncomputable def wantedA (ops : Array Oper) (T : Tr AVal) (o : Oper) : Option Bool :=
  match o.guard with
  | none => some true
  | some (j, want) => match ops[j]? with
    | some o' => match o'.dst with
      | some d => match T.get d with
        | some (.bool b) => some (b == want)
        | some (.tup _) => some false
        | _ => none
      | none => none
    | none => none

variable (rec : Task → St → Option Out)

noncomputable def invR (st : St) : Option Inv → Option OR
  | some (.val v h) => some (.val v { st with h })
  | some (.enter f args) => match rec (.call f args) st with
    | some ⟨.ret, v, st'⟩ => some (.val v { st with h := st'.h })
    | some ⟨.panic v, _, st'⟩ => some (.panic v { st with h := st'.h })
    | _ => none
  | some (.round l args) => match rec (.round l args) st with
    | some ⟨.ret, v, st'⟩ => some (.val v { st with h := st'.h })
    | some ⟨.panic v, _, st'⟩ => some (.panic v { st with h := st'.h })
    | _ => none
  | none => none

noncomputable def panicA (st : St) (v : AVal) : Option OR := match v with | .ifc t v => some (.panic (.ifc t v) st) | _ => none

noncomputable def recoverA (fi : FI) (st : St) : Option OR :=
  match fi.rnd, st.pm with
  | none, .plain => some (.val .ifc0 st)
  | none, .dret => some (.val .ifc0 st)
  | none, .dpan v false => some (.val v { st with pm := .dpan v true })
  | none, .dpan _ true => some (.val .ifc0 st)
  | _, _ => none

noncomputable def otherOp (fi : FI) (st : St) (o : Oper) : Option OR :=
  match o.op with
  | .call c => match c.callee with
    | .builtin .panic => match c.args.toList with | [x] => panicA st (ev st.T x) | _ => none
    | .builtin .recover => recoverA fi st
    | .builtin _ => none
    | _ => match resolveA (ev st.T) c with
      | some d => invR rec st (invokeA exts st.h d.fn d.captured d.args)
      | none => none
  | .defer c => match fi.rnd, resolveA (ev st.T) c with
    | none, some d => some (.val (.tup []) { st with ds := .call d :: st.ds })
    | _, _ => none
  | .panic x => panicA st (ev st.T x)
  | _ => none

inductive OpK where
  | rd | wr | other

/-- which of the three an operation is -/
noncomputable def kindOf (o : Op) : OpK :=
  match o with
  | .alloc _ => .wr
  | .box _ _ => .wr
  | .buildSlice _ _ _ => .wr
  | .store _ _ _ => .wr
  | .makeMap _ _ => .wr
  | .makeSlice _ _ _ => .wr
  | .mapUpdate _ _ _ _ => .wr
  | .insert _ _ _ _ => .wr
  | .mapEntry _ _ _ => .wr
  | .entryStore _ _ _ _ => .wr
  | .range _ _ => .wr
  | .next _ _ => .wr
  | .convert _ d _ => match P.underlying d with | some (.slice _) => .wr | _ => .rd
  | .call c => match c.callee with
    | .builtin .append => .wr
    | .builtin .copy => .wr
    | .builtin .delete => .wr
    | .builtin .clear => .wr
    | .builtin .len => .rd
    | .builtin .max => .rd
    | .builtin .min => .rd
    | _ => .other
  | .defer _ => .other
  | .panic _ => .other
  | _ => .rd

noncomputable def opX (fi : FI) (st : St) (o : Oper) : Option OR :=
  match kindOf P o.op with
  | .rd => match rdOp P orc st.h (ev st.T) o.op with
    | some v => some (.val v st)
    | none => none
  | .wr => match wrOp P st.h (ev st.T) o with
    | some (v, h) => some (.val v { st with h })
    | none => none
  | .other => otherOp exts rec fi st o

/-! ### Regions -/

noncomputable def out (ex : Ex) (st : St) : Option Out := some ⟨ex, .undef, st⟩

noncomputable def execList (fi : FI) (ops : Array Oper) : List Oper → St → Option Out
  | [], st => out .normal st
  | o :: l, st =>
    match wantedA ops st.T o with
    | some true => match opX P orc exts rec fi st o with
      | some (.val v st) => match putT fi st.T o.dst v with
        | some T => execList fi ops l { st with T }
        | none => none
      | some (.panic v st) => out (.panic v) st
      | none => none
    | some false => match putT fi st.T o.dst (.tup []) with
      | some T => execList fi ops l { st with T }
      | none => none
    | none => none

/-- is a reading operation's value still what it was? -/
noncomputable def still (ops : Array Oper) (st : St) (j : Nat) : Bool :=
  match ops[j]? with
  | none => false
  | some o => match wantedA ops st.T o with
    | some true => match rdOp P orc st.h (ev st.T) o.op with
      | some v => match o.dst with
        | some d => match st.T.get d with
          | some v' => AVal.same v v'
          | none => false
        | none => true
      | none => false
    | some false => match o.dst with
      | some d => match st.T.get d with
        | some v' => AVal.same (.tup []) v'
        | none => false
      | none => true
    | none => false

noncomputable def stills (ops : Array Oper) (st : St) : List Nat → Bool
  | [] => true
  | j :: l => match still P orc ops st j with
    | true => stills ops st l
    | false => false

/-- what the region's operations have written is forgotten -/
noncomputable def dels (T : Tr AVal) : List Oper → Tr AVal
  | [] => T
  | o :: l => match o.dst with
    | some d => dels (T.del d) l
    | none => dels T l

noncomputable def execPlan (fi : FI) (ops : Array Oper) : List PSt → St → Option Out
  | [], st => out .normal st
  | .rd i :: l, st =>
    match ops[i]? with
    | none => none
    | some o =>
      match wantedA ops st.T o with
      | some true => match rdOp P orc st.h (ev st.T) o.op with
        | some v => match putT fi st.T o.dst v with
          | some T => execPlan fi ops l { st with T }
          | none => none
        | none => none
      | some false => match putT fi st.T o.dst (.tup []) with
        | some T => execPlan fi ops l { st with T }
        | none => none
      | none => none
  | .mu i js :: l, st =>
    match ops[i]? with
    | none => none
    | some o =>
      match wantedA ops st.T o with
      | some true => match opX P orc exts rec fi st o with
        | some (.val v st) => match putT fi st.T o.dst v with
          | some T => match stills P orc ops { st with T } js with
            | true => execPlan fi ops l { st with T }
            | false => none
          | none => none
        | some (.panic v st) => out (.panic v) { st with T := dels st.T ops.toList }
        | none => none
      | some false => match putT fi st.T o.dst (.tup []) with
        | some T => match stills P orc ops { st with T } js with
          | true => execPlan fi ops l { st with T }
          | false => none
        | none => none
      | none => none
  | .al i js :: l, st =>
    match ops[i]? with
    | none => none
    | some o =>
      match wrOp P st.h (ev st.T) o with
      | some (v, h) => match putT fi st.T o.dst v with
        | some T => match stills P orc ops { st with T, h } js with
          | true => execPlan fi ops l { st with T, h }
          | false => none
        | none => none
      | none => none

/-! ### The plan of a region that draws its order -/

noncomputable def bit (x i : Nat) : Bool := Nat.beq (Nat.land (Nat.shiftRight x i) 1) 1
noncomputable def pow2 (i : Nat) : Nat := Nat.shiftLeft 1 i
noncomputable def subM (a b : Nat) : Bool := Nat.beq (Nat.land a b) a

/-- the operations that must come ahead of one (bits), by the binding edges -/
noncomputable def predsL (ms : Tr Nat) : List Edge → Nat → Nat
  | [], s => s
  | e :: l, s => match Region.binds .any e with
    | true => predsL ms l (Nat.lor s (Nat.lor (pow2 e.on) (match ms.get e.on with | some m => m | none => 0)))
    | false => predsL ms l s

noncomputable def masks : List Oper → Nat → Tr Nat → Tr Nat
  | [], _, ms => ms
  | o :: l, i, ms => masks l (i + 1) (ms.put i (predsL ms o.after.toList 0))

noncomputable def maskAt (ms : Tr Nat) (i : Nat) : Nat := match ms.get i with | some m => m | none => 0

noncomputable def tmpsOf : List Operand → List Tmp
  | [] => []
  | .tmp t :: l => t :: tmpsOf l
  | _ :: l => tmpsOf l

/-- the temporaries that an operation reads -/
noncomputable def reads (ops : Array Oper) (o : Oper) : List Tmp :=
  match o.guard with
  | none => tmpsOf o.op.operands.toList
  | some (g, _) => match ops[g]? with
    | some o' => match o'.dst with
      | some d => d :: tmpsOf o.op.operands.toList
      | none => tmpsOf o.op.operands.toList
    | none => tmpsOf o.op.operands.toList

noncomputable def isRd (o : Oper) : Bool := match kindOf P o.op with | .rd => (match o.op with | .assign _ => false | _ => true) | _ => false

/-- what makes new memory out of nothing -/
noncomputable def isAl (o : Oper) : Bool :=
  match o.guard with
  | none => match o.op with
    | .alloc _ => true
    | .makeMap _ none => true
    | _ => false
  | some _ => false

noncomputable def having (p : Oper → Bool) : List Oper → Nat → Nat
  | [], _ => 0
  | o :: l, i => match p o with
    | true => Nat.lor (pow2 i) (having p l (i + 1))
    | false => having p l (i + 1)

/-- who writes a temporary; none: two do -/
noncomputable def writers : List Oper → Nat → Tr Nat → Option (Tr Nat)
  | [], _, wr => some wr
  | o :: l, i, wr => match o.dst with
    | none => writers l (i + 1) wr
    | some d => match wr.get d with
      | some _ => none
      | none => match (wr.put d i).get d with
        | some j => match Nat.beq j i with
          | true => writers l (i + 1) (wr.put d i)
          | false => none
        | none => none

/-- who reads what another one writes is behind it; or ahead of it, if that one neither only reads nor makes memory -/
noncomputable def readsOK (ms wr : Tr Nat) (ra : Nat) (j : Nat) : List Tmp → Bool
  | [] => true
  | t :: l => match wr.get t with
    | none => readsOK ms wr ra j l
    | some i => match bit (maskAt ms j) i with
      | true => readsOK ms wr ra j l
      | false => match bit (maskAt ms i) j && !bit ra i with
        | true => readsOK ms wr ra j l
        | false => false

noncomputable def ssaOK (ops : Array Oper) (ms wr : Tr Nat) (ra : Nat) : List Oper → Nat → Bool
  | [], _ => true
  | o :: l, j => match readsOK ms wr ra j (reads ops o) with
    | true => ssaOK ops ms wr ra l (j + 1)
    | false => false

/-- all that is left is behind m, or makes memory -/
noncomputable def chainOK (ms : Tr Nat) (done m : Nat) : Nat → Bool
  | 0 => true
  | r + 1 => match bit done r || bit (maskAt ms r) m with
    | true => chainOK ms done m r
    | false => false

noncomputable def maskOf : List Nat → Nat
  | [] => 0
  | i :: l => Nat.lor (pow2 i) (maskOf l)

/-- IS A PLAN GOOD? D: what is done; mp: what may not be done yet in the other order -/
noncomputable def planOK (ms : Tr Nat) (rdM alM n : Nat) : (D mp : Nat) → List PSt → Bool
  | D, _, [] => Nat.beq D (Nat.pred (pow2 n))
  | D, mp, .rd i :: l =>
    match bit rdM i && !bit D i && subM (maskAt ms i) D with
    | true => planOK ms rdM alM n (Nat.lor D (pow2 i)) (Nat.lor mp (pow2 i)) l
    | false => false
  | D, mp, .mu i js :: l =>
    match !bit alM i && !bit D i && subM (maskAt ms i) D && chainOK ms (Nat.lor D (Nat.lor alM (pow2 i))) i n &&
      subM (Nat.xor mp (Nat.land mp (maskAt ms i))) (maskOf js) with
    | true => planOK ms rdM alM n (Nat.lor D (pow2 i)) (Nat.xor mp (Nat.land mp (maskAt ms i))) l
    | false => false
  | D, mp, .al i js :: l =>
    match bit alM i && !bit D i && subM (maskAt ms i) D && chainOK ms (Nat.lor D (Nat.lor alM (pow2 i))) i n &&
      subM (Nat.xor mp (Nat.land mp (maskAt ms i))) (maskOf js) with
    | true => planOK ms rdM alM n (Nat.lor D (pow2 i)) (Nat.xor mp (Nat.land mp (maskAt ms i))) l
    | false => false

/-- the edges lead back -/
noncomputable def edgesOK : List Oper → Nat → Bool
  | [], _ => true
  | o :: l, i => match o.after.toList.all fun e => !Region.binds .any e || Nat.blt e.on i with
    | true => edgesOK l (i + 1)
    | false => false

/-- what makes memory out of nothing can make it -/
noncomputable def alsOK : List Oper → Bool
  | [] => true
  | o :: l => match isAl o with
    | false => alsOK l
    | true => match wrOp P { next := 0, m := .lf } (fun _ => .undef) o with
      | some _ => alsOK l
      | none => false

/-- a plan (any one that is good serves): what only reads as soon as it may; then the next one that does not; new memory last -/
noncomputable def firstFree (ms : Tr Nat) (among D : Nat) : Nat → Nat → Option Nat
  | 0, _ => none
  | k + 1, i => match bit among i && !bit D i && subM (maskAt ms i) D with
    | true => some i
    | false => firstFree ms among D k (i + 1)

noncomputable def bitsOf (x : Nat) : Nat → Nat → List Nat
  | 0, _ => []
  | k + 1, i => match bit x i with
    | true => i :: bitsOf x k (i + 1)
    | false => bitsOf x k (i + 1)

noncomputable def planGo (ms : Tr Nat) (rdM alM muM n : Nat) : Nat → (D mp : Nat) → List PSt
  | 0, _, _ => []
  | fuel + 1, D, mp =>
    match firstFree ms rdM D n 0 with
    | some i => .rd i :: planGo ms rdM alM muM n fuel (Nat.lor D (pow2 i)) (Nat.lor mp (pow2 i))
    | none => match firstFree ms muM D n 0 with
      | some i => .mu i (bitsOf (Nat.xor mp (Nat.land mp (maskAt ms i))) n 0) :: planGo ms rdM alM muM n fuel (Nat.lor D (pow2 i)) (Nat.xor mp (Nat.land mp (maskAt ms i)))
      | none => match firstFree ms alM D n 0 with
        | some i => .al i (bitsOf (Nat.xor mp (Nat.land mp (maskAt ms i))) n 0) :: planGo ms rdM alM muM n fuel (Nat.lor D (pow2 i)) (Nat.xor mp (Nat.land mp (maskAt ms i)))
        | none => []

noncomputable def drawn (ops : Array Oper) : Option (List PSt) :=
  let l := ops.toList
  let n := ops.size
  let ms := masks l 0 .lf
  let rdM := having (isRd P) l 0
  let alM := having isAl l 0
  let plan := planGo ms rdM alM (Nat.sub (Nat.pred (pow2 n)) (Nat.lor rdM alM)) n n 0 0
  match edgesOK l 0, writers l 0 .lf with
  | true, some wr => match ssaOK ops ms wr (Nat.lor rdM alM) l 0 && alsOK P l && planOK ms rdM alM n 0 0 plan with
    | true => some plan
    | false => none
  | _, _ => none

/-! ### Code -/

noncomputable def endLoopA (h : AH) (l : Nat) : Option (Option Code × AH) :=
  match h.m.get l with
  | some (.loop r) => match r.state with
    | .busy => none
    | _ => some (r.pending, h.upd l (.loop { r with state := .exhausted }))
  | _ => none

noncomputable def execC (fi : FI) : Code → St → Option Out
  | .skip, st => out .normal st
  | .label _, st => out .normal st
  | .ret, st => out .ret st
  | .exit id, st => out (.exit id) st
  | .seq a b, st => match execC fi a st with
    | some ⟨.normal, _, st⟩ => execC fi b st
    | r => r
  | .cond c a b, st => match ev st.T c with
    | .bool true => execC fi a st
    | .bool false => execC fi b st
    | _ => none
  | .block id b, st => match execC fi b st with
    | some ⟨.exit id', v, st⟩ => match Nat.beq id' id with
      | true => out .normal st
      | false => some ⟨.exit id', v, st⟩
    | r => r
  | .scope b, st => execC fi b st
  | .loop b, st => rec (.loop fi b) st
  | .region _ ops false, st => execList P orc exts rec fi ops ops.toList st
  | .region _ ops true, st => match drawn P ops with
    | some plan => execPlan P orc exts rec fi ops plan st
    | none => none
  | .rangeFunc f params assign body, st =>
    match ev st.T f with
    | .fn fn first captured =>
      match fi.rnd with
      | none =>
        let r := st.h.next
        let l := r + 1
        let h := (st.h.new (.deferred (some []))).new (.loop { state := .ready, pending := none, fn := fi.fn, tmps := st.T, nt := fi.nt, params, assign, body, defers := r })
        match invokeA exts h fn captured (first ++ [.fn (.yield l) [] []]) with
        | some (.enter g args) => match rec (.call g args) { st with h, ds := .collected r :: st.ds } with
          | some ⟨.ret, _, st2⟩ => match endLoopA st2.h l with
            | some (none, h2) => out .normal { st with ds := .collected r :: st.ds, h := h2 }
            | some (some .ret, h2) => out .ret { st with ds := .collected r :: st.ds, h := h2 }
            | some (some (.exit id), h2) => out (.exit id) { st with ds := .collected r :: st.ds, h := h2 }
            | _ => none
          | some ⟨.panic v, _, st2⟩ => out (.panic v) { st with ds := .collected r :: st.ds, h := st2.h }
          | _ => none
        | _ => none
      | some _ => none
    | _ => none
  | _, _ => none

/-! ### A call's end -/

noncomputable def cellRes (h : AH) (T : Tr AVal) : ResultVar → Option AVal
  | .tmp t => some (match T.get t with | some v => v | none => .undef)
  | .cell a t => match T.get a with | some (.ptr b o) => aload P h t b o | _ => none

noncomputable def cellRess (h : AH) (T : Tr AVal) : List ResultVar → Option (List AVal)
  | [] => some []
  | r :: l => match cellRes P h T r, cellRess h T l with
    | some v, some vs => some (v :: vs)
    | _, _ => none

noncomputable def resultsA (h : AH) (fn : Func) (T : Tr AVal) : Option AVal :=
  match cellRess P h T fn.results.toList with
  | some [v] => some v
  | some l => some (.tup l)
  | none => none

/-- the calls that were put off; the frame's way: it returns, or panics -/
noncomputable def leave (fn : Func) (T : Tr AVal) : Nat → List ADefer → PM → AH → Option Out
  | 0, _, _, _ => none
  | _ + 1, [], .dret, h => match resultsA P h fn T with
    | some v => some ⟨.ret, v, { T := .lf, h, ds := [], pm := .plain }⟩
    | none => none
  | _ + 1, [], .dpan v false, h => some ⟨.panic v, .undef, { T := .lf, h, ds := [], pm := .plain }⟩
  | _ + 1, [], _, _ => none
  | f + 1, .collected r :: ds, pm, h => match h.m.get r with
    | some (.deferred (some l)) => leave fn T f (l ++ ds) pm (h.upd r (.deferred none))
    | _ => none
  | f + 1, .call d :: ds, pm, h => match invokeA exts h d.fn d.captured d.args with
    | some (.enter g args) => match rec (.dcall g args) { T := .lf, h, ds := [], pm } with
      | some ⟨.ret, _, st'⟩ => match st'.pm with
        | .dpan _ true => leave fn T f ds .dret st'.h
        | pm' => leave fn T f ds pm' st'.h
      | _ => none
    | _ => none

noncomputable def bodyOf (f : FuncId) (args : List AVal) (pm : PM) (h : AH) : Option (Func × Out) :=
  match funs f with
  | some fn => match fn.body with
    | some c => match execC P orc exts rec { fn := f, nt := args.length + (fn.ntmps - args.length), rnd := none } c { T := Tr.puts .lf 0 args, h, ds := [], pm } with
      | some o => some (fn, o)
      | none => none
    | none => none
  | none => none

noncomputable def endRoundA (h : AH) (l : Nat) (jump : Option Code) : Option AH :=
  match h.m.get l with
  | some (.loop r) => some (h.upd l (.loop { r with state := match jump with | none => .ready | some _ => .done, pending := jump }))
  | _ => none

noncomputable def putAll (fi : FI) (T : Tr AVal) : List Tmp → List AVal → Option (Tr AVal)
  | [], [] => some T
  | t :: ts, v :: vs => match putT fi T (some t) v with
    | some T => putAll fi T ts vs
    | none => none
  | _, _ => none

/-- ONE STEP OF THE RECURSION -/
noncomputable def F : Task → St → Option Out
  | .loop fi b, st => match execC P orc exts rec fi b st with
    | some ⟨.normal, _, st⟩ => rec (.loop fi b) st
    | r => r
  | .call f args, st => match bodyOf P orc funs exts rec f args .plain st.h with
    | some (fn, ⟨.normal, _, st⟩) => leave P exts rec fn st.T 100 st.ds .dret st.h
    | some (fn, ⟨.ret, _, st⟩) => leave P exts rec fn st.T 100 st.ds .dret st.h
    | some (fn, ⟨.panic v, _, st⟩) => leave P exts rec fn st.T 100 st.ds (.dpan v false) st.h
    | _ => none
  | .dcall f args, st => match bodyOf P orc funs exts rec f args st.pm st.h with
    | some (fn, ⟨.normal, _, st⟩) => match st.ds, resultsA P st.h fn st.T with
      | [], some v => some ⟨.ret, v, st⟩
      | _, _ => none
    | some (fn, ⟨.ret, _, st⟩) => match st.ds, resultsA P st.h fn st.T with
      | [], some v => some ⟨.ret, v, st⟩
      | _, _ => none
    | _ => none
  | .round l args, st => match st.h.m.get l with
    | some (.loop r) => match r.state with
      | .ready =>
        let fi : FI := { fn := r.fn, nt := r.nt, rnd := some l }
        match putAll fi r.tmps r.params.toList args with
        | some T =>
          match execC P orc exts rec fi r.assign { T, h := st.h, ds := [], pm := .plain } with
          | some ⟨.normal, _, st⟩ =>
            match st.h.m.get l with
            | some (.loop r') => match r'.state with
              | .ready =>
                match execC P orc exts rec fi r.body { st with h := st.h.upd l (.loop { r' with state := .busy }) } with
                | some ⟨.normal, _, st⟩ => match endRoundA st.h l none, st.ds with
                  | some h, [] => some ⟨.ret, .bool true, { st with h }⟩
                  | _, _ => none
                | some ⟨.ret, _, st⟩ => match endRoundA st.h l (some .ret), st.ds with
                  | some h, [] => some ⟨.ret, .bool false, { st with h }⟩
                  | _, _ => none
                | some ⟨.exit id, _, st⟩ => match endRoundA st.h l (some (.exit id)), st.ds with
                  | some h, [] => some ⟨.ret, .bool false, { st with h }⟩
                  | _, _ => none
                | some ⟨.panic v, _, st⟩ => match st.ds, funs r.fn with
                  | [], some _ => some ⟨.panic v, .undef, st⟩
                  | _, _ => none
                | none => none
              | _ => none
            | _ => none
          | _ => none
        | none => none
      | _ => none
    | _ => none

end

noncomputable def go (P : Program) (orc : BinOp → Nat → AVal → Option Bool) (funs : FuncId → Option Func) (exts : FuncId → Option Ext) : Nat → Task → St → Option Out
  | 0 => fun _ _ => none
  | n + 1 => F P orc funs exts (go P orc funs exts n)

noncomputable def st0 : St := { T := .lf, h := { next := 0, m := .lf }, ds := [], pm := .plain }

noncomputable def isTrue : Option Out → Bool
  | some ⟨.ret, .bool true, _⟩ => true
  | _ => false

noncomputable def noOrc : BinOp → Nat → AVal → Option Bool := fun _ _ _ => none
end Go.Ev
