/- Calls: a frame's start, its end, the calls that were put off. -/
import Derived.Test.YtcfljlcdhacpdaaGreatEvCode
import Derived.RangeFuncRecord
namespace Go.Ev
section
variable {P : Program} {ρ : Nat → Value} {orc : BinOp → Nat → AVal → Option Bool} {funs : FuncId → Option Func} {exts : FuncId → Option Ext} {rec : Task → St → Option Out} {fi : FI}

def oneRes (tmps : Array Value) : ResultVar → Sem Value
  | .tmp t => pure (tmps.getD t undef)
  | .cell a t => do loadVar t (← asAddr (tmps.getD a undef))

theorem cellRes_sound {μ : Mu} {h : AH} {w : World} (hr : HR P ρ μ h w) {nt : Nat} {T : Tr AVal} {tmps : Array Value} (ht : TR ρ μ nt T tmps) {r : ResultVar} {x : AVal} (he : cellRes P h T r = some x) :
    ∃ v, VR ρ μ x v ∧ (oneRes tmps r).run P w = .ok v w := by
  cases r with
  | tmp t =>
    simp only [cellRes] at he
    cases he
    refine ⟨tmps.getD t undef, ?_, rfl⟩
    split
    · rename_i v hv; exact ht.2 _ _ hv
    · simp only [VR]
  | cell a t =>
    simp only [cellRes] at he
    split at he
    · rename_i b o hb
      have h1 := ht.2 _ _ hb
      simp only [VR] at h1
      obtain ⟨m, hm, h1⟩ := h1
      obtain ⟨v, hv, hrun⟩ := aload_sound hr hm he
      refine ⟨v, hv, ?_⟩
      simp only [oneRes, h1, asAddr, pure_bind]
      exact hrun
    · cases he

theorem cellRess_sound {μ : Mu} {h : AH} {w : World} (hr : HR P ρ μ h w) {nt : Nat} {T : Tr AVal} {tmps : Array Value} (ht : TR ρ μ nt T tmps) : ∀ (l : List ResultVar) (xs : List AVal), cellRess P h T l = some xs →
    ∃ vs, VRs ρ μ xs vs ∧ (l.mapM (oneRes tmps)).run P w = .ok vs w := by
  intro l
  induction l with
  | nil => intro xs he; cases he; exact ⟨[], .nil, rfl⟩
  | cons r l ih =>
    intro xs he
    simp only [cellRess] at he
    split at he
    · rename_i x xs' h1 h2
      cases he
      obtain ⟨v, hv, hrun⟩ := cellRes_sound hr ht h1
      obtain ⟨vs, hvs, hruns⟩ := ih _ h2
      refine ⟨v :: vs, .cons hv hvs, ?_⟩
      rw [List.mapM_cons]
      simp [Sem.run_bind, hrun, hruns, Result.andThen]
    · cases he

theorem results_sound {μ : Mu} {h : AH} {w : World} (hr : HR P ρ μ h w) {nt : Nat} {T : Tr AVal} {tmps : Array Value} (ht : TR ρ μ nt T tmps) {fn : Func} {x : AVal} (he : resultsA P h fn T = some x) :
    ∃ v, VR ρ μ x v ∧ (results fn tmps).run P w = .ok v w := by
  have hres : results fn tmps = (do
      let vs ← fn.results.mapM (oneRes tmps)
      pure (if h : vs.size = 1 then vs[0] else .tuple vs)) := by
    unfold results
    congr 1
  rw [hres, Array.mapM_eq_mapM_toList]
  unfold resultsA at he
  split at he
  · rename_i v hv
    cases he
    obtain ⟨vs, h1, h2⟩ := cellRess_sound hr ht _ _ hv
    obtain ⟨v', ws, e, h3, h4⟩ := h1.cons_inv
    rw [h4.nil_inv] at e
    subst e
    refine ⟨v', h3, ?_⟩
    simp [h2, Result.andThen]
  · rename_i l hne hl
    cases he
    obtain ⟨vs, h1, h2⟩ := cellRess_sound hr ht _ _ hl
    refine ⟨.tuple vs.toArray, by simp only [VR]; exact ⟨_, rfl, h1⟩, ?_⟩
    have hlen : vs.length ≠ 1 := by
      rw [← h1.length]
      intro e
      match l, e with
      | [x], _ => exact hne x rfl
    simp [h2, Result.andThen, hlen]
  · cases he

/-- the way a frame leaves -/
def Way (ρ : Nat → Value) (μ : Mu) : PM → FrameMode → Prop
  | .plain, _ => False
  | .dret, m => m = .returning
  | .dpan v rec, m => ∃ v', VR ρ μ v v' ∧ m = .panicking [{ v := v', recovered := rec }]

/-- how it ends -/
def EndsOK (P : Program) (ρ : Nat → Value) (μ : Mu) (out : Out) (fr : Frame) (w : World) : Prop :=
  (out.ex = .ret ∧ ∃ v, VR ρ μ out.val v ∧ fr.leaving P w (.returned v)) ∨ (∃ pv v, out.ex = .panic pv ∧ VR ρ μ pv v ∧ fr.leaving P w (.panicked [{ v, recovered := false }]))

theorem step_collected {fr : Frame} {cs : List Frame} {w : World} {r : Nat} {ds : List Deferred} {l : List Deferred} {w' : World} (hm : fr.mode ≠ .run)
    (hd : fr.defers = { target := .collected r, args := #[] } :: ds) (ht : (Instr.takeDeferred r).run P w = .ok l w') :
    step P (lone fr cs w) = .next (lone { fr with defers := l ++ ds } cs w') := by
  refine step_lone_go ?_
  cases hmode : fr.mode with
  | run => exact absurd hmode hm
  | returning => simp [stepG, unwind, hmode, hd, Sem.runT_eq, ht]
  | panicking chain => simp [stepG, unwind, hmode, hd, Sem.runT_eq, ht]

theorem take_sound {μ : Mu} {h : AH} {w : World} (hr : HR P ρ μ h w) {r : Nat} {m : Nat × Nat × Nat} {l : List ADefer} (hm : μ r = some m) (hl : h.m.get r = some (.deferred (some l))) :
    ∃ l' w', DRs ρ μ l l' ∧ (Instr.takeDeferred m.1).run P w = .ok l' w' ∧ Ok P ρ μ h w μ (h.upd r (.deferred none)) w' := by
  obtain ⟨ob, hob, ho⟩ := hr.obj _ _ _ hl hm
  simp only [ObjR] at ho
  obtain ⟨l', rfl, hds⟩ := ho
  have hlt := (Array.getElem?_eq_some_iff.1 hob).1
  refine ⟨l', w.putObj m.1 (.deferred none), hds, ?_, ?_⟩
  · exact run_takeDeferred hob
  · refine Ok.upd hr hm hl (ob := .deferred none) rfl ?_ (fun c hc => World.putObj_heap_other hc) World.putObj_size rfl rfl rfl
    simp [World.putObj, hlt]

theorem VRs.toArray {μ : Mu} {l : List AVal} {x : Array Value} (h : VRs ρ μ l x.toList) : VRs ρ μ l x.toList := h

theorem leave_sound (hg : Good P ρ rec) {f : FuncId} {fn : Func} (hfn : P.funcs[f]? = some fn) : ∀ (n : Nat) (T : Tr AVal) (ds : List ADefer) (pm : PM) (h : AH) (out : Out),
    leave P exts rec fn T n ds pm h = some out → ∀ (μ : Mu) (w : World) (fr : Frame) (nt : Nat) (cs : List Frame), HR P ρ μ h w → TR ρ μ nt T fr.tmps → DRs ρ μ ds fr.defers → Way ρ μ pm fr.mode → fr.kind = .normal → fr.fn = f →
    ∃ μ' w' fr', Ok P ρ μ h w μ' out.st.h w' ∧ Steps P (lone fr cs w) (lone fr' cs w') ∧ fr'.fn = f ∧ EndsOK P ρ μ' out fr' w' := by
  intro n
  induction n with
  | zero => intro T ds pm h out he; simp only [leave] at he; cases he
  | succ n ih =>
    intro T ds pm h out he μ w fr nt cs hr ht hd hway hk hf
    have hrun : fr.mode ≠ .run := by
      cases pm with
      | plain => exact hway.elim
      | dret => simp only [Way] at hway; rw [hway]; simp
      | dpan v rec => obtain ⟨v', _, h⟩ := hway; rw [h]; simp
    cases ds with
    | nil =>
      simp only [DRs] at hd
      cases pm with
      | plain => exact hway.elim
      | dret =>
        simp only [leave] at he
        split at he
        · rename_i v hv
          cases he
          obtain ⟨v', h1, h2⟩ := results_sound hr ht hv
          simp only [Way] at hway
          exact ⟨μ, w, fr, .refl hr, .refl _ _, hf, .inl ⟨rfl, v', h1, hway, hd, hk, fn, by rw [hf]; exact hfn, h2⟩⟩
        · cases he
      | dpan v rec =>
        cases rec with
        | true => simp only [leave] at he; cases he
        | false =>
          simp only [leave] at he
          cases he
          obtain ⟨v', h1, h2⟩ := hway
          exact ⟨μ, w, fr, .refl hr, .refl _ _, hf, .inr ⟨v, v', rfl, h1, h2, hd, fn, by rw [hf]; exact hfn⟩⟩
    | cons d ds =>
      simp only [DRs] at hd
      obtain ⟨q, rs, hq, hdq, hds⟩ := hd
      cases d with
      | collected r =>
        have he' : (match h.m.get r with | some (.deferred (some l)) => leave P exts rec fn T n (l ++ ds) pm (h.upd r (.deferred none)) | _ => none) = some out := by
          cases pm <;> exact he
        split at he'
        · rename_i l hl
          simp only [DR] at hdq
          obtain ⟨m, hm, rfl⟩ := hdq
          obtain ⟨l', w1, k1, k2, k3⟩ := take_sound hr hm hl
          obtain ⟨μ', w', fr', l1, l2, l3, l4⟩ := ih _ _ _ _ _ he' μ w1 { fr with defers := l' ++ rs } nt cs k3.hr ht (DRs.append k1 hds) hway hk hf
          exact ⟨μ', w', fr', k3.trans l1, .head (step_collected hrun hq k2) l2, l3, l4⟩
        · cases he'
      | call d =>
        have he' : (match invokeA exts h d.fn d.captured d.args with
          | some (.enter g args) => match rec (.dcall g args) { T := .lf, h, ds := [], pm } with
            | some ⟨.ret, _, st'⟩ => match st'.pm with
              | .dpan _ true => leave P exts rec fn T n ds .dret st'.h
              | pm' => leave P exts rec fn T n ds pm' st'.h
            | _ => none
          | _ => none) = some out := by
          cases pm <;> exact he
        obtain ⟨f', cap, dargs, rfl, hfr, hcap, hargs⟩ := hdq
        split at he'
        case h_2 => cases he'
        rename_i g args hinv
        split at he'
        case h_2 => cases he'
        rename_i v0 st' hrec
        obtain ⟨hcf, hcall⟩ := hg _ _ _ hrec
        have hen : ∃ args', VRs ρ μ args args'.toList ∧ (invoke (.fn f' cap) dargs).run P w = .ok (.enter g args') w := by
          unfold invokeA at hinv
          cases hdf : d.fn with
          | func g0 =>
            rw [hdf] at hinv hfr
            simp only [FR] at hfr
            subst hfr
            simp only [callA] at hinv
            cases hex : exts g0 with
            | none =>
              rw [hex] at hinv
              cases hinv
              exact ⟨dargs ++ cap, vrs_append hargs hcap, hcf _ _⟩
            | some e =>
              rw [hex] at hinv
              simp only at hinv
              split at hinv <;> cases hinv
          | _ => rw [hdf] at hinv; simp at hinv
        obtain ⟨args', hva, hinvk⟩ := hen
        have hpm0 : PMR ρ μ pm .deferred ({ fr with defers := rs } :: cs) ({ fr with defers := rs } :: cs) := by
          cases pm with
          | plain => exact hway.elim
          | dret => simp only [Way] at hway; exact ⟨rfl, _, cs, rfl, by rw [← hway]⟩
          | dpan v rec => obtain ⟨v', h1, h2⟩ := hway; exact ⟨rfl, _, cs, v', rfl, h1, by rw [← h2]⟩
        obtain ⟨μ1, w1, fr1, cs1, k1, k2, k3, k4, v1, k5⟩ := hcall μ w args' hr hva _ _ hpm0
        have hstep := step_defer (cs := cs) hrun hq rfl hinvk
        have fin : ∀ (pm' : PM) (mode' : FrameMode), leave P exts rec fn T n ds pm' st'.h = some out → cs1 = { fr with defers := rs, mode := mode' } :: cs → Way ρ μ1 pm' (settle mode') →
            ∃ μ' w' fr', Ok P ρ μ h w μ' out.st.h w' ∧ Steps P (lone fr cs w) (lone fr' cs w') ∧ fr'.fn = f ∧ EndsOK P ρ μ' out fr' w' := by
          intro pm' mode' hl hcs hw'
          subst hcs
          obtain ⟨μ2, w2, fr2, l1, l2, l3, l4⟩ := ih _ _ _ _ _ hl μ1 w1 { fr with defers := rs, mode := settle mode' } nt cs k1.hr (ht.mono k1.le) (hds.mono k1.le) hw' hk hf
          exact ⟨μ2, w2, fr2, k1.trans l1, (Steps.head hstep k3).trans (.head (step_going_returned k4 k5) l2), l3, l4⟩
        split at he'
        · rename_i v2 hpm'
          simp only at k2
          rw [hpm'] at k2
          obtain ⟨_, c, r, v', e, _, hcs⟩ := k2
          injection e with e1 e2
          subst e1; subst e2
          exact fin .dret _ he' hcs rfl
        · rename_i hpm'
          simp only at k2
          cases hq2 : st'.pm with
          | plain => rw [hq2] at k2; exact absurd k2.1 (by simp)
          | dret =>
            rw [hq2] at k2 he'
            obtain ⟨_, c, r, e, hcs⟩ := k2
            injection e with e1 e2
            subst e1; subst e2
            exact fin .dret _ he' hcs rfl
          | dpan v2 r2 =>
            rw [hq2] at k2 he'
            obtain ⟨_, c, r, v', e, hv', hcs⟩ := k2
            injection e with e1 e2
            subst e1; subst e2
            cases r2 with
            | true => exact absurd hq2 (hpm' v2)
            | false => exact fin (.dpan v2 false) _ he' hcs ⟨v', hv', rfl⟩
end
end Go.Ev
