/- One operation: what it promises. -/
import Derived.Test.YtcfljlcdhacpdaaGreatEvSim
namespace Go.Ev

/-- what an operation needs of the state: its own operands alone -/
structure StO (P : Program) (ρ : Nat → Value) (μ : Mu) (st : St) (o : Oper) (b : Frame) (a : Act) (w : World) (cs0 cs : List Frame) : Prop where
  hr : HR P ρ μ st.h w
  ev : ∀ x ∈ o.op.operands.toList, VR ρ μ (ev st.T x) (a.eval x)
  dr : DRs ρ μ st.ds a.defers
  pm : PMR ρ μ st.pm b.kind cs0 cs

/-- what an operation does in a region: it is carried out; or it panics -/
def OpOK (P : Program) (ρ : Nat → Value) (fi : FI) (st : St) (o : Oper) (r : OR) : Prop :=
  ∀ (μ : Mu) (b : Frame) (a : Act) (w : World) (cs0 cs : List Frame) (ops : Array Oper) (i : Nat) (rest : List Nat) (k : List Item), FIR μ fi b → StO P ρ μ st o b a w cs0 cs →
    ops[i]? = some o → Region.wanted o (yielded ops a.tmps) = true →
    match r with
    | .val r st' => st'.T = st.T ∧ ∃ (μ' : Mu) (a' : Act) (w' : World) (cs' : List Frame) (v : Value), Ok P ρ μ st.h w μ' st'.h w' ∧ VR ρ μ' r v ∧ a'.tmps = a.tmps ∧ DRs ρ μ' st'.ds a'.defers ∧
        PMR ρ μ' st'.pm b.kind cs0 cs' ∧ Steps P (lone (b.atR a (.inRegion ops (i :: rest) :: k)) cs w) (lone (b.atR (a'.put o.dst v) (.inRegion ops rest :: k)) cs' w')
    | .panic pv st' => st'.T = st.T ∧ st'.ds = st.ds ∧ st'.pm = st.pm ∧ ∃ (μ' : Mu) (w' : World) (v : Value), Ok P ρ μ st.h w μ' st'.h w' ∧ VR ρ μ' pv v ∧
        Steps P (lone (b.atR a (.inRegion ops (i :: rest) :: k)) cs w) (lone { b.atR a (.inRegion ops (i :: rest) :: k) with mode := .panicking [{ v, recovered := false }] } cs w')

/-- what making a call comes to, where c makes it -/
def Does (P : Program) (s : Sem Next) (c : Frame) (cs : List Frame) (w : World) (res : Frame) (v : Option Value) (w' : World) : Prop :=
  (∃ x, v = some x ∧ s.run P w = .ok (.value x) w' ∧ res = c.finish x) ∨
  (∃ f args, s.run P w = .ok (.enter f args) w ∧ Steps P (lone (Frame.enter P f args .normal) (c :: cs) w) (lone res cs w')) ∨
  (∃ l f tmps asg body, s.run P w = .ok (.round l f tmps asg body) w ∧ Steps P (lone (Frame.round l f tmps asg body .normal) (c :: cs) w) (lone res cs w'))

section
variable {P : Program} {ρ : Nat → Value} {orc : BinOp → Nat → AVal → Option Bool} {funs : FuncId → Option Func} {exts : FuncId → Option Ext} {rec : Task → St → Option Out} {fi : FI} {st : St}

theorem indexByte_find (c : Nat) (hc : c < 256) : ∀ (l : List UInt8) (i : Nat), indexByteA c (l.map UInt8.toNat) i =
    match (l.zipIdx i).find? (fun p => p.1 == UInt8.ofNat c) with | some p => (p.2 : Int) | none => -1 := by
  intro l
  induction l with
  | nil => intro i; rfl
  | cons x l ih =>
    intro i
    simp only [List.map_cons, indexByteA, List.zipIdx_cons, List.find?_cons]
    rcases beq_tf x.toNat c with ⟨e, h⟩ | ⟨e, h⟩
    · have : (x == UInt8.ofNat c) = true := by rw [← h]; simp
      simp [e, this]
    · have : (x == UInt8.ofNat c) = false := by
        rw [beq_eq_false_iff_ne]
        intro h2; apply h; rw [h2]; simp; omega
      simp only [e, this]
      exact ih (i + 1)

theorem range_find (b : ByteArray) (c : UInt8) : (List.range b.size).find? (fun i => b[i]! == c) = ((b.data.toList.zipIdx 0).find? (fun p => p.1 == c)).map (·.2) := by
  have h1 : List.range b.size = (b.data.toList.zipIdx 0).map (·.2) := by
    rw [List.zipIdx_map_snd, List.range_eq_range', Array.length_toList]; rfl
  rw [h1, List.find?_map]
  congr 1
  have h2 : ∀ (l : List (UInt8 × Nat)) (f g : UInt8 × Nat → Bool), (∀ p ∈ l, f p = g p) → l.find? f = l.find? g := by
    intro l f g
    induction l with
    | nil => intro _; rfl
    | cons x l ih =>
      intro h
      simp only [List.find?_cons, h x (by simp)]
      rw [ih fun p hp => h p (by simp [hp])]
  refine h2 _ _ _ ?_
  intro p hp
  obtain ⟨x, i⟩ := p
  have := List.mem_zipIdx hp
  simp only [Function.comp]
  have hi : i < b.size := by
    have := this.2.1
    simp at this
    exact this
  have e : b[i]! = x := by
    rw [getElem!_pos b i hi]
    have h3 := this.2.2
    simp at h3
    rw [h3]; rfl
  rw [e]

theorem indexByte_sound (b : ByteArray) (c : Int) (hc : c.toNat < 256) (w : World) : (Extern.BytealgIndexByte.indexByte #[.string b, .int .u8 c]).run P w =
    .ok (.int .i64 (indexByteA c.toNat (b.data.toList.map UInt8.toNat) 0)) w := by
  have h1 : (Extern.BytealgIndexByte.indexByte #[.string b, .int .u8 c]).run P w = .ok (match (List.range b.size).find? fun i => b[i]! == c.toNat.toUInt8 with | some i => goInt i | none => goInt (-1)) w := by
    show ((do
      let b ← Extern.Bytes.bytesOf (.string b)
      let c ← Extern.Bytes.asByte (.int .u8 c)
      match (List.range b.size).find? fun i => b[i]! == c with
      | some i => pure (goInt i)
      | none => pure (goInt (-1))) : Sem Value).run P w = _
    simp only [Extern.Bytes.bytesOf, Extern.Bytes.asByte, pure_bind]
    split <;> rfl
  rw [h1, range_find, indexByte_find c.toNat hc]
  cases (b.data.toList.zipIdx 0).find? (fun p => p.1 == UInt8.ofNat c.toNat) with
  | none => rfl
  | some p => rfl

theorem externA_sound (hp : ProgOK P funs exts) {f : FuncId} {e : Ext} (hf : exts f = some e) {h h' : AH} {args : List AVal} {r : AVal} (he : externA h e args = some (r, h'))
    {μ : Mu} {args' : Array Value} (ha : VRs ρ μ args args'.toList) (w : World) : h' = h ∧ ∃ v, VR ρ μ r v ∧ (callFunc f args').run P w = .ok (.value v) w := by
  unfold externA at he
  split at he
  · rename_i s c
    rcases hlt : Nat.blt c.toNat 256 with _ | _ <;> rw [hlt] at he
    · cases he
    cases he
    refine ⟨rfl, ?_⟩
    obtain ⟨v1, ws, e1, h1, h2⟩ := ha.cons_inv
    obtain ⟨v2, ws2, e2, h3, h4⟩ := h2.cons_inv
    rw [h4.nil_inv] at e2
    simp only [VR] at h1 h3
    obtain ⟨b, rfl, rfl⟩ := h1
    subst h3
    have : args' = #[.string b, .int .u8 c] := by apply Array.ext'; rw [e1, e2]
    subst this
    refine ⟨.int .i64 (indexByteA c.toNat (b.data.toList.map UInt8.toNat) 0), by simp only [VR], ?_⟩
    rw [hp.ext_ok f hf]
    rw [indexByte_sound b c (ble_le hlt)]
    rfl
  · cases he

theorem vrs_append {μ : Mu} {l m : List AVal} {x y : Array Value} (h1 : VRs ρ μ l x.toList) (h2 : VRs ρ μ m y.toList) : VRs ρ μ (l ++ m) (x ++ y).toList := by
  rw [Array.toList_append]; exact h1.append h2

/-- a call, wherever it is made: what invoking it comes to -/
theorem callFunc_enter (hp : ProgOK P funs exts) {f : FuncId} {fn : Func} {c : Code} (hf : funs f = some fn) (hb : fn.body = some c) (args : Array Value) (w : World) :
    (callFunc f args).run P w = .ok (.enter f args) w := by
  have h1 := hp.funs_ok _ _ hf
  have h2 := hp.name_ok _ _ hf
  simp [callFunc, h1, h2, hb]

/-- a call that is made -/
theorem call_does {μ : Mu} (hg : Good P ρ rec) {f : FuncId} {args : List AVal} {st : St} {o : Out} (he : rec (.call f args) st = some o) {w : World} {args' : Array Value}
    (hr : HR P ρ μ st.h w) (ha : VRs ρ μ args args'.toList) (c : Frame) (cs : List Frame) : ∃ μ' w', Ok P ρ μ st.h w μ' o.st.h w' ∧
      ((o.ex = .ret ∧ ∃ v, VR ρ μ' o.val v ∧ Does P (callFunc f args') c cs w (c.finish v) (some v) w') ∨
       (∃ pv v, o.ex = .panic pv ∧ VR ρ μ' pv v ∧ Does P (callFunc f args') c cs w (c.raise [{ v, recovered := false }]) none w')) := by
  obtain ⟨h1, h2⟩ := hg _ _ _ he
  obtain ⟨μ', w', fr, hok, hs, _, hend⟩ := h2 μ w args' hr ha (c :: cs)
  refine ⟨μ', w', hok, ?_⟩
  rcases hend with ⟨e, v, hv, hl⟩ | ⟨pv, v, e, hv, hl⟩
  · exact .inl ⟨e, v, hv, .inr (.inl ⟨f, args', h1 _ _, hs.trans (.one (step_leave_returned hl))⟩)⟩
  · exact .inr ⟨pv, v, e, hv, .inr (.inl ⟨f, args', h1 _ _, hs.trans (.one (step_leave_panicked hl))⟩)⟩

theorem round_does {μ : Mu} (hg : Good P ρ rec) {l : Nat} {args : List AVal} {st : St} {o : Out} (he : rec (.round l args) st = some o) {w : World} {args' : Array Value} {m : Nat × Nat × Nat}
    (hr : HR P ρ μ st.h w) (hm : μ l = some m) (ha : VRs ρ μ args args'.toList) (c : Frame) (cs : List Frame) : ∃ μ' w', Ok P ρ μ st.h w μ' o.st.h w' ∧
      ((o.ex = .ret ∧ ∃ v, VR ρ μ' o.val v ∧ Does P (Instr.yield m.1 args') c cs w (c.finish v) (some v) w') ∨
       (∃ pv v, o.ex = .panic pv ∧ VR ρ μ' pv v ∧ Does P (Instr.yield m.1 args') c cs w (c.raise [{ v, recovered := false }]) none w')) := by
  obtain ⟨fn, tmps, asg, body, μ', w', hy, hok, hend⟩ := hg _ _ _ he μ w m args' hr hm ha c cs
  refine ⟨μ', w', hok, ?_⟩
  rcases hend with ⟨e, v, hv, hl⟩ | ⟨pv, v, e, hv, hl⟩
  · exact .inl ⟨e, v, hv, .inr (.inr ⟨m.1, fn, tmps, asg, body, hy, hl⟩)⟩
  · exact .inr ⟨pv, v, e, hv, .inr (.inr ⟨m.1, fn, tmps, asg, body, hy, hl⟩)⟩

/-- what invoking comes to -/
def InvOK (P : Program) (ρ : Nat → Value) (μ : Mu) (st : St) (w : World) (s : Sem Next) (c : Frame) (cs : List Frame) : OR → Prop
  | .val v st' => st' = { st with h := st'.h } ∧ ∃ μ' w' v', Ok P ρ μ st.h w μ' st'.h w' ∧ VR ρ μ' v v' ∧ Does P s c cs w (c.finish v') (some v') w'
  | .panic v st' => st' = { st with h := st'.h } ∧ ∃ μ' w' v', Ok P ρ μ st.h w μ' st'.h w' ∧ VR ρ μ' v v' ∧ Does P s c cs w (c.raise [{ v := v', recovered := false }]) none w'

/-- invoking a function value -/
theorem inv_does {μ : Mu} (hp : ProgOK P funs exts) (hg : Good P ρ rec) {fn fn' : Fn} {cap args : List AVal} {cap' args' : Array Value} {st : St} {r : OR}
    (he : invR rec st (invokeA exts st.h fn cap args) = some r) {w : World} (hr : HR P ρ μ st.h w) (hf : FR μ fn fn') (hc : VRs ρ μ cap cap'.toList) (ha : VRs ρ μ args args'.toList)
    (c : Frame) (cs : List Frame) : InvOK P ρ μ st w (invoke (.fn fn' cap') args') c cs r := by
  unfold invokeA at he
  cases fn with
  | func f =>
    simp only [FR] at hf
    subst hf
    have hall := vrs_append ha hc
    have hi : invoke (.fn (.func f) cap') args' = callFunc f (args' ++ cap') := rfl
    rw [hi]
    simp only [callA] at he
    cases hex : exts f with
    | none =>
      simp only [hex, invR] at he
      split at he
      · rename_i v st' hrec
        cases he
        obtain ⟨μ', w', hok, h | h⟩ := call_does hg hrec hr hall c cs
        · obtain ⟨_, v', hv, hd⟩ := h
          exact ⟨rfl, μ', w', v', hok, hv, hd⟩
        · obtain ⟨pv, v', h, _⟩ := h; cases h
      · rename_i v _ st' hrec
        cases he
        obtain ⟨μ', w', hok, h | h⟩ := call_does hg hrec hr hall c cs
        · obtain ⟨h, _⟩ := h; cases h
        · obtain ⟨pv, v', h, hv, hd⟩ := h; cases h
          exact ⟨rfl, μ', w', v', hok, hv, hd⟩
      · cases he
    | some e =>
      simp only [hex] at he
      cases hx : externA st.h e (args ++ cap) with
      | none => simp [hx, invR] at he
      | some q =>
        obtain ⟨v, h2⟩ := q
        simp only [hx, invR] at he
        cases he
        obtain ⟨rfl, v', hv, hrun⟩ := externA_sound hp hex hx hall w
        exact ⟨rfl, μ, w, v', .refl hr, hv, .inl ⟨v', rfl, hrun, rfl⟩⟩
  | yield l =>
    simp only [FR] at hf
    obtain ⟨m, hm, rfl⟩ := hf
    have hi : invoke (.fn (.yield m.1) cap') args' = Instr.yield m.1 args' := rfl
    rw [hi]
    simp only [invR] at he
    split at he
    · rename_i v st' hrec
      cases he
      obtain ⟨μ', w', hok, h | h⟩ := round_does hg hrec hr hm ha c cs
      · obtain ⟨_, v', hv, hd⟩ := h
        exact ⟨rfl, μ', w', v', hok, hv, hd⟩
      · obtain ⟨pv, v', h, _⟩ := h; cases h
    · rename_i v _ st' hrec
      cases he
      obtain ⟨μ', w', hok, h | h⟩ := round_does hg hrec hr hm ha c cs
      · obtain ⟨h, _⟩ := h; cases h
      · obtain ⟨pv, v', h, hv, hd⟩ := h; cases h
        exact ⟨rfl, μ', w', v', hok, hv, hd⟩
    · cases he
  | _ => simp [invR] at he

/-- a call's callee and arguments -/
theorem resolve_sound {μ : Mu} {ev : Ev} {evl : Operand → Value} {cl : Call} {d : ADef} (he : resolveA ev cl = some d) (hf : ∀ x, cl.callee = .value x → VR ρ μ (ev x) (evl x))
    (hev : ∀ x ∈ cl.args.toList, VR ρ μ (ev x) (evl x)) : ∃ fn' cap' args', FR μ d.fn fn' ∧ VRs ρ μ d.captured cap'.toList ∧ VRs ρ μ d.args args'.toList ∧
      ∀ ty w, (resolve evl cl ty).run P w = .ok { target := .fn fn' cap', args := args' } w := by
  unfold resolveA at he
  split at he
  · cases he
  · cases he
  · rename_i x hx
    split at he
    · rename_i fn first cap hq
      cases he
      have h1 := hf x hx
      rw [hq] at h1
      simp only [VR] at h1
      obtain ⟨fn', vs, ws, h2, h3, h4, h5⟩ := h1
      refine ⟨fn', ws, vs ++ cl.args.map evl, h3, h5, ?_, ?_⟩
      · refine vrs_append h4 ?_
        rw [Array.toList_map]
        exact VRs.map _ hev
      · intro ty w
        simp [resolve, hx, h2, Deferred.ofValue]
    · cases he
end
end Go.Ev
