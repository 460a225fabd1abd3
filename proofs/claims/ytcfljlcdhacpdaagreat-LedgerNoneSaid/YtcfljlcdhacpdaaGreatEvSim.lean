/- What each part of the run promises. -/
import Derived.Test.YtcfljlcdhacpdaaGreatEvStep
namespace Go.Ev

structure ProgOK (P : Program) (funs : FuncId → Option Func) (exts : FuncId → Option Ext) : Prop where
  funs_ok : ∀ f fn, funs f = some fn → P.funcs[f]? = some fn
  name_ok : ∀ f fn, funs f = some fn → fn.name ≠ "runtime.NumGoroutine"
  ext_ok : ∀ f, exts f = some .indexByte → ∀ args w, (callFunc f args).run P w = ((Extern.BytealgIndexByte.indexByte args).run P w).andThen fun v w => .ok (.value v) w
  mixed : P.follows .mixedOrders = true

section
variable (P : Program) (ρ : Nat → Value)

/-- the frame's callers, as the frame may have turned the first one's way -/
def PMR (μ : Mu) : PM → CallKind → List Frame → List Frame → Prop
  | .plain, kd, cs0, cs => kd = .normal ∧ cs = cs0
  | .dret, kd, cs0, cs => kd = .deferred ∧ ∃ c r, cs0 = c :: r ∧ cs = { c with mode := .returning } :: r
  | .dpan v rec, kd, cs0, cs => kd = .deferred ∧ ∃ c r v', cs0 = c :: r ∧ VR ρ μ v v' ∧ cs = { c with mode := .panicking [{ v := v', recovered := rec }] } :: r

def FIR (μ : Mu) (fi : FI) (b : Frame) : Prop :=
  fi.fn = b.fn ∧ match fi.rnd with
    | none => b.roundOf = none
    | some l => ∃ m, μ l = some m ∧ b.roundOf = some m.1 ∧ b.kind = .normal

structure StR (μ : Mu) (fi : FI) (st : St) (b : Frame) (a : Act) (w : World) (cs0 cs : List Frame) : Prop where
  hr : HR P ρ μ st.h w
  tr : TR ρ μ fi.nt st.T a.tmps
  dr : DRs ρ μ st.ds a.defers
  pm : PMR ρ μ st.pm b.kind cs0 cs

/-- where the frame stands behind a piece of code -/
def ArrF (μ : Mu) : Ex → Frame → Act → List Item → Frame → Prop
  | .normal, b, a, k, fr => fr = b.atR a k
  | .exit id, b, a, k, fr => ∃ k2, fr = b.atR a (.code (.exit id) :: k2) ∧ exitTo id k2 = exitTo id k
  | .ret, b, a, _, fr => ∃ k2, fr = b.atR a (.code .ret :: k2)
  | .panic v, b, a, _, fr => ∃ todo v', VR ρ μ v v' ∧ fr = { b.atR a todo with mode := .panicking [{ v := v', recovered := false }] }

/-- from 'start k' the frame comes to 'out' -/
def RunOK (start : List Item → List Item) (fi : FI) (st : St) (out : Out) : Prop :=
  ∀ μ b a w k cs0 cs, FIR μ fi b → StR P ρ μ fi st b a w cs0 cs →
    ∃ μ' a' w' cs' fr, Ok P ρ μ st.h w μ' out.st.h w' ∧ StR P ρ μ' fi out.st b a' w' cs0 cs' ∧ ArrF ρ μ' out.ex b a' k fr ∧
      Steps P (lone (b.atR a (start k)) cs w) (lone fr cs' w')

def CallOK (f : FuncId) (args : List AVal) (st : St) (out : Out) : Prop :=
  (∀ (args' : Array Value) w, (callFunc f args').run P w = .ok (.enter f args') w) ∧
  ∀ μ w (args' : Array Value), HR P ρ μ st.h w → VRs ρ μ args args'.toList → ∀ cs, ∃ μ' w' fr, Ok P ρ μ st.h w μ' out.st.h w' ∧
    Steps P (lone (Frame.enter P f args' .normal) cs w) (lone fr cs w') ∧ fr.fn = f ∧
    ((out.ex = .ret ∧ ∃ v, VR ρ μ' out.val v ∧ fr.leaving P w' (.returned v)) ∨ (∃ pv v, out.ex = .panic pv ∧ VR ρ μ' pv v ∧ fr.leaving P w' (.panicked [{ v, recovered := false }])))

def DCallOK (f : FuncId) (args : List AVal) (st : St) (out : Out) : Prop :=
  (∀ (args' : Array Value) w, (callFunc f args').run P w = .ok (.enter f args') w) ∧
  ∀ μ w (args' : Array Value), HR P ρ μ st.h w → VRs ρ μ args args'.toList → ∀ cs0 cs, PMR ρ μ st.pm .deferred cs0 cs → ∃ μ' w' fr cs', Ok P ρ μ st.h w μ' out.st.h w' ∧
    PMR ρ μ' out.st.pm .deferred cs0 cs' ∧ Steps P (lone (Frame.enter P f args' .deferred) cs w) (lone fr cs' w') ∧ fr.kind = .deferred ∧ ∃ v, fr.going P w' (.returned v)

def RoundOK (l : Nat) (args : List AVal) (st : St) (out : Out) : Prop :=
  ∀ μ w m (args' : Array Value), HR P ρ μ st.h w → μ l = some m → VRs ρ μ args args'.toList → ∀ c cs, ∃ fn tmps asg body μ' w',
    (Instr.yield m.1 args').run P w = .ok (.round m.1 fn tmps asg body) w ∧ Ok P ρ μ st.h w μ' out.st.h w' ∧
    ((out.ex = .ret ∧ ∃ v, VR ρ μ' out.val v ∧ Steps P (lone (Frame.round m.1 fn tmps asg body .normal) (c :: cs) w) (lone (c.finish v) cs w')) ∨
     (∃ pv v, out.ex = .panic pv ∧ VR ρ μ' pv v ∧ Steps P (lone (Frame.round m.1 fn tmps asg body .normal) (c :: cs) w) (lone (c.raise [{ v, recovered := false }]) cs w')))

def TaskOK : Task → St → Out → Prop
  | .loop fi body, st, out => RunOK P ρ (fun k => .code body :: .inLoop body :: k) fi st out
  | .call f args, st, out => CallOK P ρ f args st out
  | .dcall f args, st, out => DCallOK P ρ f args st out
  | .round l args, st, out => RoundOK P ρ l args st out

def Good (rec : Task → St → Option Out) : Prop := ∀ t st out, rec t st = some out → TaskOK P ρ t st out

end

section
variable {P : Program} {ρ : Nat → Value} {μ μ' : Mu} {fi : FI} {st : St} {b : Frame} {a : Act} {w : World} {cs0 cs : List Frame}

theorem PMR.mono (h : Mu.le μ μ') {pm : PM} {kd : CallKind} (hp : PMR ρ μ pm kd cs0 cs) : PMR ρ μ' pm kd cs0 cs := by
  cases pm with
  | plain => exact hp
  | dret => exact hp
  | dpan v rec => obtain ⟨h1, c, r, v', h2, h3, h4⟩ := hp; exact ⟨h1, c, r, v', h2, VR.mono h _ _ h3, h4⟩

theorem FIR.mono (h : Mu.le μ μ') (hf : FIR μ fi b) : FIR μ' fi b := by
  obtain ⟨h1, h2⟩ := hf
  refine ⟨h1, ?_⟩
  cases e : fi.rnd with
  | none => rw [e] at h2; exact h2
  | some l => rw [e] at h2; obtain ⟨m, h3, h4⟩ := h2; exact ⟨m, h _ _ h3, h4⟩

theorem ev_sound (ht : TR ρ μ fi.nt st.T a.tmps) (x : Operand) : VR ρ μ (ev st.T x) (a.eval x) := by
  cases x with
  | tmp t =>
    simp only [ev, Act.eval]
    split
    · rename_i v hv; exact ht.2 _ _ hv
    · simp only [VR]
  | const v => exact ofValue_VR v
  | global g => simp only [ev, Act.eval, VR]
  | func f => simp only [ev, Act.eval, VR]; exact ⟨_, _, _, rfl, rfl, .nil, .nil⟩

theorem putT_sound {d : Option Tmp} {x : AVal} {v : Value} {T' : Tr AVal} (he : putT fi st.T d x = some T') (ht : TR ρ μ fi.nt st.T a.tmps) (hx : VR ρ μ x v) :
    TR ρ μ fi.nt T' (a.put d v).tmps := by
  unfold putT at he
  split at he
  · cases he; exact ht
  · rename_i d
    split at he
    · rename_i hlt
      cases he
      have hlt := blt_lt hlt
      refine ⟨by simp [Act.put, ht.1], ?_⟩
      intro t y hy
      rcases Tr.get_put hy with ⟨rfl, rfl⟩ | ⟨hne, hy'⟩
      · have : t < a.tmps.size := by rw [ht.1]; exact hlt
        simp [Act.put, Array.getD, this, hx]
      · have := ht.2 t y hy'
        simp only [Act.put]
        rw [show (a.tmps.setIfInBounds d v).getD t undef = a.tmps.getD t undef from by
          simp only [Array.getD_eq_getD_getElem?, Array.getElem?_setIfInBounds_ne (Ne.symm hne)]]
        exact this
    · cases he

theorem put_defers (a : Act) (d : Option Tmp) (v : Value) : (a.put d v).defers = a.defers := by cases d <;> rfl

theorem wanted_sound {ops : Array Oper} {o : Oper} {q : Bool} (he : wantedA ops st.T o = some q) (ht : TR ρ μ fi.nt st.T a.tmps) : Region.wanted o (yielded ops a.tmps) = q := by
  unfold wantedA at he
  unfold Region.wanted
  split at he
  · rename_i hg; cases he; rw [hg]
  · rename_i j want hg
    rw [hg]
    simp only
    split at he
    · rename_i o' ho'
      split at he
      · rename_i d hd
        split at he
        · rename_i p hp
          cases he
          have h1 := ht.2 _ _ hp
          simp only [VR] at h1
          have hlt : d < a.tmps.size := by
            rcases Nat.lt_or_ge d a.tmps.size with h | h
            · exact h
            · simp [Array.getD, Nat.not_lt.2 h, undef] at h1
          have h2 : a.tmps[d]? = some (.bool p) := by
            rw [Array.getElem?_eq_getElem hlt]
            simp [Array.getD, hlt] at h1
            rw [h1]
          simp [yielded, ho', hd, h2]
        · rename_i l hp
          cases he
          have h1 := ht.2 _ _ hp
          simp only [VR] at h1
          obtain ⟨vs, h1, _⟩ := h1
          have h2 : ∀ p, a.tmps[d]? ≠ some (.bool p) := by
            intro p h
            simp [Array.getD_eq_getD_getElem?, h] at h1
          have : yielded ops a.tmps j = none := by
            simp only [yielded, ho', hd, Option.bind_some]
          rw [this]; cases want <;> rfl
        · cases he
      · cases he
    · cases he

/-- an operation that is no defer is carried out as everywhere -/
theorem semAt_of_kind {o : Oper} (h : ∀ c, o.op ≠ .defer c) (ro : Option Nat) (evl : Operand → Value) : o.semAt ro evl = execOp evl o := Oper.semAt_eq ro evl o h

end
end Go.Ev
