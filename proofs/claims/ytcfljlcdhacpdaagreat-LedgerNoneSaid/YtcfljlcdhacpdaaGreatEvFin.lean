/- THE EVALUATOR IS SOUND. -/
import Derived.Test.YtcfljlcdhacpdaaGreatEvRange
namespace Go.Ev
section
variable {P : Program} {ρ : Nat → Value} {orc : BinOp → Nat → AVal → Option Bool} {funs : FuncId → Option Func} {exts : FuncId → Option Ext} {rec : Task → St → Option Out}

theorem round_sound (hp : ProgOK P funs exts) (hg : Good P ρ rec) (horc : OrcOK P ρ orc) {l : Nat} {args : List AVal} {st : St} {out : Out}
    (he : F P orc funs exts rec (.round l args) st = some out) : TaskOK P ρ (.round l args) st out := by
  have hrange := range_sound (orc := orc) hp hg
  intro μ w m args' hr hm ha c cs
  simp only [F] at he
  split at he
  case h_2 => cases he
  rename_i r hl
  split at he
  case h_2 => cases he
  rename_i hready
  split at he
  case h_2 => cases he
  rename_i T hput
  split at he
  case h_2 => cases he
  rename_i v0 st1 hasg
  split at he
  case h_2 => cases he
  rename_i r' hl'
  split at he
  case h_2 => cases he
  rename_i hready'
  obtain ⟨tm, md, hob, htm, hq⟩ := loop_get hr hm hl
  obtain ⟨hlen, hT⟩ := putAll_sound (fi := { fn := r.fn, nt := r.nt, rnd := some l }) _ _ _ _ tm _ hput htm ha
  have hy := run_yield (P := P) (args := args') hob (by
    rw [← Array.length_toList, ← hlen]; simp)
  have hfold : ((r.params.zip args').foldl (fun tmps (p : Tmp × Value) => tmps.setIfInBounds p.1 p.2) tm) = ((r.params.toList.zip args'.toList).foldl (fun tmps (p : Tmp × Value) => tmps.setIfInBounds p.1 p.2) tm) := by
    rw [← Array.foldl_toList, Array.toList_zip]
  rw [← hfold] at hT
  refine ⟨r.fn, (r.params.zip args').foldl (fun tmps (p : Tmp × Value) => tmps.setIfInBounds p.1 p.2) tm, r.assign, r.body, ?_⟩
  have hstr : StR P ρ μ { fn := r.fn, nt := r.nt, rnd := some l } { T, h := st.h, ds := [], pm := .plain } (Frame.round m.1 r.fn ((r.params.zip args').foldl (fun tmps (p : Tmp × Value) => tmps.setIfInBounds p.1 p.2) tm) r.assign r.body .normal)
      { tmps := (r.params.zip args').foldl (fun tmps (p : Tmp × Value) => tmps.setIfInBounds p.1 p.2) tm, defers := [] } w (c :: cs) (c :: cs) := ⟨hr, hT, rfl, rfl, rfl⟩
  have hfi : FIR μ { fn := r.fn, nt := r.nt, rnd := some l } (Frame.round m.1 r.fn ((r.params.zip args').foldl (fun tmps (p : Tmp × Value) => tmps.setIfInBounds p.1 p.2) tm) r.assign r.body .normal) := ⟨rfl, m, hm, rfl, rfl⟩
  generalize hb : Frame.round m.1 r.fn ((r.params.zip args').foldl (fun tmps (p : Tmp × Value) => tmps.setIfInBounds p.1 p.2) tm) r.assign r.body .normal = b at hstr hfi
  have hro : b.roundOf = some m.1 := by rw [← hb]; rfl
  have hkd : b.kind = .normal := by rw [← hb]; rfl
  have hbat : b.atR { tmps := (r.params.zip args').foldl (fun tmps (p : Tmp × Value) => tmps.setIfInBounds p.1 p.2) tm, defers := [] } [.code r.assign, .beginRound, .code r.body] = b := by rw [← hb]; rfl
  have hfnb : b.fn = r.fn := by rw [← hb]; rfl
  obtain ⟨μ1, a1, w1, cs1, fr1, k1, k2, k3, k4⟩ := execC_sound hp hg horc hrange r.assign _ _ hasg μ b _ w [.beginRound, .code r.body] (c :: cs) (c :: cs) hfi hstr
  rw [hbat] at k4
  simp only [ArrF] at k3
  subst k3
  have plainOf : ∀ (μ' : Mu) (pm : PM) (cs' : List Frame), PMR ρ μ' pm b.kind (c :: cs) cs' → cs' = c :: cs := by
    intro μ' pm cs' h
    rw [hkd] at h
    cases pm with
    | plain => exact h.2
    | dret => exact absurd h.1 (by simp)
    | dpan v r => exact absurd h.1 (by simp)
  have e1 := plainOf _ _ _ k2.pm
  subst e1
  have hm1 := k1.le _ _ hm
  obtain ⟨tm', md', hob', htm', hq'⟩ := loop_get k2.hr hm1 hl'
  have hbusy := loop_upd k2.hr hm1 hl' hob' htm' hq' .busy r'.pending
  have hbegin := stepR_beginRound (P := P) (b := b) (a := a1) (k := [.code r.body]) (cs := c :: cs) hro (run_beginRound hob' hready')
  have hst2 : StR P ρ μ1 { fn := r.fn, nt := r.nt, rnd := some l } { st1 with h := st1.h.upd l (.loop { r' with state := .busy }) } b a1
      (w1.putObj m.1 (.loop { state := .busy, pending := r'.pending, fn := r'.fn, tmps := tm', params := r'.params, assign := r'.assign, body := r'.body, defers := md' })) (c :: cs) (c :: cs) := ⟨hbusy.hr, k2.tr, k2.dr, k2.pm⟩
  have hsteps1 := k4.trans (.one hbegin)
  have hok1 := k1.trans hbusy
  cases hbody : execC P orc exts rec { fn := r.fn, nt := r.nt, rnd := some l } r.body { st1 with h := st1.h.upd l (.loop { r' with state := .busy }) } with
  | none => rw [hbody] at he; cases he
  | some o2 =>
    rw [hbody] at he
    obtain ⟨μ2, a2, w2, cs2, fr2, l1, l2, l3, l4⟩ := execC_sound hp hg horc hrange r.body _ _ hbody μ1 b a1 _ [] (c :: cs) (c :: cs) (hfi.mono hok1.le) hst2
    have e2 := plainOf _ _ _ l2.pm
    subst e2
    have hm2 := l1.le _ _ hm1
    have hsteps := hsteps1.trans l4
    have hok := hok1.trans l1
    obtain ⟨ex, v, s⟩ := o2
    cases ex with
    | normal =>
      simp only [ArrF] at l3
      subst l3
      simp only at he
      split at he
      · rename_i h3 hend hds
        cases he
        obtain ⟨w3, p1, p2⟩ := endRound_sound l2.hr hm2 hend
        refine ⟨μ2, w3, hy, hok.trans p2, .inl ⟨rfl, .bool true, by simp only [VR], ?_⟩⟩
        exact hsteps.trans (.one (stepR_round_end hro hkd p1))
      · cases he
    | ret =>
      obtain ⟨kk, l3⟩ := l3
      subst l3
      simp only at he
      split at he
      · rename_i h3 hend hds
        cases he
        obtain ⟨w3, p1, p2⟩ := endRound_sound l2.hr hm2 hend
        refine ⟨μ2, w3, hy, hok.trans p2, .inl ⟨rfl, .bool false, by simp only [VR], ?_⟩⟩
        exact hsteps.trans (.one (stepR_round_ret hro hkd p1))
      · cases he
    | exit id =>
      obtain ⟨kk, l3, l5⟩ := l3
      subst l3
      simp only at he
      split at he
      · rename_i h3 hend hds
        cases he
        obtain ⟨w3, p1, p2⟩ := endRound_sound l2.hr hm2 hend
        refine ⟨μ2, w3, hy, hok.trans p2, .inl ⟨rfl, .bool false, by simp only [VR], ?_⟩⟩
        exact hsteps.trans (.one (stepR_round_exit hro hkd (by rw [l5]; rfl) p1))
      · cases he
    | panic pv =>
      obtain ⟨todo, v', hv, l3⟩ := l3
      subst l3
      simp only at he
      split at he
      · rename_i fn hds hfn
        cases he
        have hd := l2.dr
        rw [hds] at hd
        refine ⟨μ2, w2, hy, hok, .inr ⟨pv, v', rfl, hv, ?_⟩⟩
        exact hsteps.trans (.one (step_leave_panicked ⟨rfl, hd, fn, by rw [show ({ b.atR a2 todo with mode := .panicking [{ v := v', recovered := false }] } : Frame).fn = r.fn from hfnb]; exact hp.funs_ok _ _ hfn⟩))
      · cases he

theorem F_good (hp : ProgOK P funs exts) (horc : OrcOK P ρ orc) (hg : Good P ρ rec) : Good P ρ (F P orc funs exts rec) := by
  intro t st out he
  cases t with
  | loop fi body => exact loop_sound hp hg horc (range_sound hp hg) he
  | call f args => exact call_sound hp hg horc (range_sound hp hg) he
  | dcall f args => exact dcall_sound hp hg horc (range_sound hp hg) he
  | round l args => exact round_sound hp hg horc he

theorem go_good (hp : ProgOK P funs exts) (horc : OrcOK P ρ orc) : ∀ n, Good P ρ (go P orc funs exts n) := by
  intro n
  induction n with
  | zero => intro t st out he; cases he
  | succ n ih => exact F_good hp horc ih

theorem hr0 (w : World) : HR P ρ (fun _ => none) { next := 0, m := .lf } w := by
  refine ⟨?_, ?_, ?_, ?_⟩
  · intro b m h; cases h
  · intro b b' m m' o o' h; cases h
  · intro b o m h; cases h
  · intro b o h; cases h

/-- a call that the evaluator has brought to an end: it returns what the evaluator says; all that was in memory before is as it was -/
theorem calls_of_go (hp : ProgOK P funs exts) (horc : OrcOK P ρ orc) {n : Nat} {f : FuncId} {args : List AVal} {args' : Array Value} {x : AVal} {s : St}
    (he : go P orc funs exts n (.call f args) st0 = some ⟨.ret, x, s⟩) (ha : VRs ρ (fun _ => none) args args'.toList) (w : World) :
    Calls P f args' w fun e w' => ∃ v μ, e = .returned v ∧ VR ρ μ x v ∧ HR P ρ μ s.h w' ∧ Frm (fun _ => none) w w' := by
  intro cs
  obtain ⟨_, h⟩ := go_good (ρ := ρ) hp horc n _ _ _ he
  obtain ⟨μ', w', fr, h1, h2, h3, h4⟩ := h (fun _ => none) w args' (hr0 w) ha cs
  rcases h4 with ⟨_, v, hv, hl⟩ | ⟨pv, v, e, _⟩
  · exact ⟨.returned v, w', fr, ⟨v, μ', rfl, hv, h1.hr, h1.frm⟩, h2, h3, hl⟩
  · cases e

theorem calls_true (hp : ProgOK P funs exts) (horc : OrcOK P ρ orc) {n : Nat} {f : FuncId} {args : List AVal} {args' : Array Value}
    (he : isTrue (go P orc funs exts n (.call f args) st0) = true) (ha : VRs ρ (fun _ => none) args args'.toList) (w : World) :
    Calls P f args' w fun e w' => e = .returned (.bool true) ∧ Frm (fun _ => none) w w' := by
  unfold isTrue at he
  split at he
  · rename_i s hgo
    intro cs
    obtain ⟨e, w', fr, ⟨v, μ, h1, h2, _, h3⟩, h4⟩ := calls_of_go hp horc hgo ha w cs
    simp only [VR] at h2
    subst h2
    exact ⟨e, w', fr, ⟨h1, h3⟩, h4⟩
  · cases he
end
end Go.Ev
