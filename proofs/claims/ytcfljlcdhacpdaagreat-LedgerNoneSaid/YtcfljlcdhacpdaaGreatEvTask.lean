/- The tasks: a call, a call that was put off. -/
import Derived.Test.YtcfljlcdhacpdaaGreatEvCall
namespace Go.Ev
section
variable {P : Program} {ρ : Nat → Value} {orc : BinOp → Nat → AVal → Option Bool} {funs : FuncId → Option Func} {exts : FuncId → Option Ext} {rec : Task → St → Option Out} {fi : FI}

/-- a body's run, up to where the frame leaves -/
def fiOf (f : FuncId) (fn : Func) (n : Nat) : FI := { fn := f, nt := n + (fn.ntmps - n), rnd := none }

theorem bodyOf_spec {f : FuncId} {args : List AVal} {pm : PM} {h : AH} {fn : Func} {o : Out} (he : bodyOf P orc funs exts rec f args pm h = some (fn, o)) :
    ∃ c, funs f = some fn ∧ fn.body = some c ∧ execC P orc exts rec (fiOf f fn args.length) c { T := Tr.puts .lf 0 args, h, ds := [], pm } = some o := by
  unfold bodyOf at he
  split at he
  · rename_i fn' hf
    split at he
    · rename_i c hc
      split at he
      · rename_i o' ho
        cases he
        exact ⟨c, hf, hc, ho⟩
      · cases he
    · cases he
  · cases he

theorem body_sound (hp : ProgOK P funs exts) (hg : Good P ρ rec) (horc : OrcOK P ρ orc) (hrange : RangeOK P ρ orc exts rec) {f : FuncId} {args : List AVal} {pm : PM} {h : AH} {fn : Func} {o : Out}
    (he : bodyOf P orc funs exts rec f args pm h = some (fn, o)) {μ : Mu} {w : World} {args' : Array Value} (hr : HR P ρ μ h w) (ha : VRs ρ μ args args'.toList) (kd : CallKind) (cs0 cs : List Frame) (hpm : PMR ρ μ pm kd cs0 cs) :
    ∃ μ' w' fr cs', Ok P ρ μ h w μ' o.st.h w' ∧ Steps P (lone (Frame.enter P f args' kd) cs w) (lone fr cs' w') ∧ fr.fn = f ∧ fr.kind = kd ∧ TR ρ μ' (args.length + (fn.ntmps - args.length)) o.st.T fr.tmps ∧
      DRs ρ μ' o.st.ds fr.defers ∧ PMR ρ μ' o.st.pm kd cs0 cs' ∧
      ((o.ex = .normal ∧ fr.mode = .returning) ∨ (o.ex = .ret ∧ fr.mode = .returning) ∨ (∃ v v', o.ex = .panic v ∧ VR ρ μ' v v' ∧ fr.mode = .panicking [{ v := v', recovered := false }]) ∨ ∃ id, o.ex = .exit id) := by
  obtain ⟨c, hf, hc, hx⟩ := bodyOf_spec he
  have hfn := hp.funs_ok _ _ hf
  have hlen : args.length = args'.size := by rw [ha.length, Array.length_toList]
  have hst : StR P ρ μ (fiOf f fn args.length) { T := Tr.puts .lf 0 args, h, ds := [], pm } (Frame.enter P f args' kd) { tmps := args' ++ Array.replicate (fn.ntmps - args'.size) undef, defers := [] } w cs0 cs := by
    refine ⟨hr, ⟨?_, ?_⟩, rfl, hpm⟩
    · simp [fiOf, hlen]
    · intro t x hx
      rcases Tr.get_puts _ _ _ _ _ hx with ⟨_, h1⟩ | ⟨_, h1⟩
      · rw [Nat.sub_zero] at h1
        obtain ⟨v, h2, h3⟩ := ha.get h1
        have hlt : t < args'.size := by
          have := (List.getElem?_eq_some_iff.1 h2).1
          simpa using this
        have h4 : (args' ++ Array.replicate (fn.ntmps - args'.size) undef).getD t undef = v := by
          rw [Array.getD_eq_getD_getElem?, Array.getElem?_append_left hlt, ← Array.getElem?_toList, h2]; rfl
        rw [h4]; exact h3
      · cases h1
  have hfi : FIR μ (fiOf f fn args.length) (Frame.enter P f args' kd) := ⟨rfl, rfl⟩
  obtain ⟨μ', a', w', cs', fr, k1, k2, k3, k4⟩ := execC_sound hp hg horc hrange c _ _ hx μ _ _ w [] cs0 cs hfi hst
  have hstart : (Frame.enter P f args' kd).atR { tmps := args' ++ Array.replicate (fn.ntmps - args'.size) undef, defers := [] } [.code c] = Frame.enter P f args' kd := by
    simp [Frame.atR, Frame.enter, hfn, hc]
  rw [hstart] at k4
  have hnone : (Frame.enter P f args' kd).roundOf = none := rfl
  obtain ⟨ex, v, s⟩ := o
  cases ex with
  | normal =>
    simp only [ArrF] at k3
    subst k3
    exact ⟨μ', w', _, cs', k1, k4.trans (.one (stepR_end hnone)), rfl, rfl, k2.tr, k2.dr, k2.pm, .inl ⟨rfl, rfl⟩⟩
  | ret =>
    obtain ⟨kk, rfl⟩ := k3
    exact ⟨μ', w', _, cs', k1, k4.trans (.one (stepR_ret hnone)), rfl, rfl, k2.tr, k2.dr, k2.pm, .inr (.inl ⟨rfl, rfl⟩)⟩
  | panic pv =>
    obtain ⟨todo, v', hv, rfl⟩ := k3
    exact ⟨μ', w', _, cs', k1, k4, rfl, rfl, k2.tr, k2.dr, k2.pm, .inr (.inr (.inl ⟨pv, v', rfl, hv, rfl⟩))⟩
  | exit id =>
    obtain ⟨kk, rfl, _⟩ := k3
    exact ⟨μ', w', _, cs', k1, k4, rfl, rfl, k2.tr, k2.dr, k2.pm, .inr (.inr (.inr ⟨id, rfl⟩))⟩

theorem call_sound (hp : ProgOK P funs exts) (hg : Good P ρ rec) (horc : OrcOK P ρ orc) (hrange : RangeOK P ρ orc exts rec) {f : FuncId} {args : List AVal} {st : St} {out : Out}
    (he : F P orc funs exts rec (.call f args) st = some out) : TaskOK P ρ (.call f args) st out := by
  simp only [F] at he
  cases hb : bodyOf P orc funs exts rec f args .plain st.h with
  | none => rw [hb] at he; cases he
  | some q =>
    obtain ⟨fn, o⟩ := q
    rw [hb] at he
    obtain ⟨c, hf, hc, _⟩ := bodyOf_spec hb
    refine ⟨callFunc_enter hp hf hc, ?_⟩
    intro μ w args' hr ha cs
    obtain ⟨μ1, w1, fr, cs1, k1, k2, k3, k4, k5, k6, k7, k8⟩ := body_sound hp hg horc hrange hb hr ha .normal cs cs (by
      show PMR ρ μ .plain .normal cs cs
      exact ⟨rfl, rfl⟩)
    have hkey : ∀ (pm : PM), leave P exts rec fn o.st.T 100 o.st.ds pm o.st.h = some out → Way ρ μ1 pm fr.mode → ∃ μ' w' fr, Ok P ρ μ st.h w μ' out.st.h w' ∧
        Steps P (lone (Frame.enter P f args' .normal) cs w) (lone fr cs w') ∧ fr.fn = f ∧ EndsOK P ρ μ' out fr w' := by
      intro pm hl hw
      have hcs : cs1 = cs := by
        cases hq : o.st.pm with
        | plain => rw [hq] at k7; exact k7.2
        | dret => rw [hq] at k7; exact absurd k7.1 (by simp)
        | dpan v r => rw [hq] at k7; exact absurd k7.1 (by simp)
      subst hcs
      obtain ⟨μ', w', fr', l1, l2, l3, l4⟩ := leave_sound hg (hp.funs_ok _ _ hf) 100 _ _ _ _ _ hl μ1 w1 fr _ cs1 k1.hr k5 k6 hw k4 k3
      exact ⟨μ', w', fr', k1.trans l1, k2.trans l2, l3, l4⟩
    obtain ⟨ex, v, s⟩ := o
    rcases k8 with ⟨e, hm⟩ | ⟨e, hm⟩ | ⟨pv, v', e, hv, hm⟩ | ⟨id, e⟩
    · simp only at e; subst e; exact hkey .dret he hm
    · simp only at e; subst e; exact hkey .dret he hm
    · simp only at e; subst e; exact hkey (.dpan pv false) he ⟨v', hv, hm⟩
    · simp only at e; subst e; cases he

theorem dcall_sound (hp : ProgOK P funs exts) (hg : Good P ρ rec) (horc : OrcOK P ρ orc) (hrange : RangeOK P ρ orc exts rec) {f : FuncId} {args : List AVal} {st : St} {out : Out}
    (he : F P orc funs exts rec (.dcall f args) st = some out) : TaskOK P ρ (.dcall f args) st out := by
  simp only [F] at he
  cases hb : bodyOf P orc funs exts rec f args st.pm st.h with
  | none => rw [hb] at he; cases he
  | some q =>
    obtain ⟨fn, o⟩ := q
    rw [hb] at he
    obtain ⟨c, hf, hc, _⟩ := bodyOf_spec hb
    refine ⟨callFunc_enter hp hf hc, ?_⟩
    intro μ w args' hr ha cs0 cs hpm
    obtain ⟨μ1, w1, fr, cs1, k1, k2, k3, k4, k5, k6, k7, k8⟩ := body_sound hp hg horc hrange hb hr ha .deferred cs0 cs hpm
    have hkey : (match o.st.ds, resultsA P o.st.h fn o.st.T with | [], some v => some (⟨.ret, v, o.st⟩ : Out) | _, _ => none) = some out → fr.mode = .returning → ∃ μ' w' fr cs', Ok P ρ μ st.h w μ' out.st.h w' ∧
        PMR ρ μ' out.st.pm .deferred cs0 cs' ∧ Steps P (lone (Frame.enter P f args' .deferred) cs w) (lone fr cs' w') ∧ fr.kind = .deferred ∧ ∃ v, fr.going P w' (.returned v) := by
      intro hl hm
      split at hl
      · rename_i v hds hres
        cases hl
        obtain ⟨v', h1, h2⟩ := results_sound k1.hr k5 hres
        rw [hds] at k6
        exact ⟨μ1, w1, fr, cs1, k1, k7, k2, k4, v', hm, k6, fn, by rw [k3]; exact hp.funs_ok _ _ hf, h2⟩
      · cases hl
    obtain ⟨ex, v, s⟩ := o
    rcases k8 with ⟨e, hm⟩ | ⟨e, hm⟩ | ⟨pv, v', e, hv, hm⟩ | ⟨id, e⟩
    · simp only at e; subst e; exact hkey he hm
    · simp only at e; subst e; exact hkey he hm
    · simp only at e; subst e; cases he
    · simp only at e; subst e; cases he
end
end Go.Ev
