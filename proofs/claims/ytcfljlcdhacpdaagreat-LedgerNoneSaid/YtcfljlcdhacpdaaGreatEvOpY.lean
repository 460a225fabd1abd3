/- Every operation keeps its promise. -/
import Derived.Test.YtcfljlcdhacpdaaGreatEvOpX
namespace Go.Ev
section
variable {P : Program} {ρ : Nat → Value} {orc : BinOp → Nat → AVal → Option Bool} {funs : FuncId → Option Func} {exts : FuncId → Option Ext} {rec : Task → St → Option Out} {fi : FI} {st : St}

theorem StR.toO {μ : Mu} {b : Frame} {a : Act} {w : World} {cs0 cs : List Frame} (h : StR P ρ μ fi st b a w cs0 cs) (o : Oper) : StO P ρ μ st o b a w cs0 cs :=
  ⟨h.hr, fun x _ => ev_sound h.tr x, h.dr, h.pm⟩

theorem kind_nodefer {o : Op} {c : Call} (h : o = .defer c) : kindOf P o = .other := by subst h; rfl

theorem panicA_sound {v : AVal} {r : OR} (he : panicA st v = some r) : ∃ t x, v = .ifc t x ∧ r = .panic (.ifc t x) st := by
  unfold panicA at he
  split at he
  · cases he; exact ⟨_, _, rfl, rfl⟩
  · cases he

theorem call_mem {o : Oper} {c : Call} (hop : o.op = .call c) {x : Operand} (h : c.callee = .value x ∨ x ∈ c.args.toList) : x ∈ o.op.operands.toList := by
  rw [hop]
  simp only [Op.operands, Call.operands]
  rcases h with h | h
  · simp [h]
  · cases hc : c.callee <;> simp_all

theorem defer_mem {o : Oper} {c : Call} (hop : o.op = .defer c) {x : Operand} (h : c.callee = .value x ∨ x ∈ c.args.toList) : x ∈ o.op.operands.toList := by
  rw [hop]
  simp only [Op.operands, Call.operands]
  rcases h with h | h
  · simp [h]
  · cases hc : c.callee <;> simp_all

/-- from 'Does' to the machine's steps at an operation -/
theorem does_val {b : Frame} {a : Act} {w w' : World} {cs : List Frame} {ops : Array Oper} {i : Nat} {rest : List Nat} {k : List Item} {o : Oper} {v : Value}
    (ho : ops[i]? = some o) (hw : Region.wanted o (yielded ops a.tmps) = true) (hd : Does P (o.semAt b.roundOf a.eval) (b.atR a (.inRegion ops (i :: rest) :: k)) cs w ((b.atR a (.inRegion ops (i :: rest) :: k)).finish v) (some v) w') :
    Steps P (lone (b.atR a (.inRegion ops (i :: rest) :: k)) cs w) (lone (b.atR (a.put o.dst v) (.inRegion ops rest :: k)) cs w') := by
  have hfin := Frame.finish_atR b a ops i rest k v
  rw [ho] at hfin
  simp only [Option.bind_some] at hfin
  rw [hfin] at hd
  rcases hd with ⟨x, hx, hr, _⟩ | ⟨f, args, hr, hs⟩ | ⟨l, f, tmps, asg, body, hr, hs⟩
  · cases hx; exact .one (opStep_next ho hw hr (.inl rfl))
  · exact .head (opStep_enter ho hw hr) hs
  · exact .head (opStep_round ho hw hr) hs

theorem does_panic {b : Frame} {a : Act} {w w' : World} {cs : List Frame} {ops : Array Oper} {i : Nat} {rest : List Nat} {k : List Item} {o : Oper} {v : Value}
    (ho : ops[i]? = some o) (hw : Region.wanted o (yielded ops a.tmps) = true)
    (hd : Does P (o.semAt b.roundOf a.eval) (b.atR a (.inRegion ops (i :: rest) :: k)) cs w ((b.atR a (.inRegion ops (i :: rest) :: k)).raise [{ v, recovered := false }]) none w') :
    Steps P (lone (b.atR a (.inRegion ops (i :: rest) :: k)) cs w) (lone { b.atR a (.inRegion ops (i :: rest) :: k) with mode := .panicking [{ v, recovered := false }] } cs w') := by
  rw [Frame.raise_atR] at hd
  rcases hd with ⟨x, hx, _⟩ | ⟨f, args, hr, hs⟩ | ⟨l, f, tmps, asg, body, hr, hs⟩
  · cases hx
  · exact .head (opStep_enter ho hw hr) hs
  · exact .head (opStep_round ho hw hr) hs

theorem panicOp_sound {o : Oper} {x : Operand} {r : OR} (hsem : ∀ ro evl, o.semAt ro evl = (do pure (.value (← Instr.panic (evl x))))) (hx0 : x ∈ o.op.operands.toList) (he : panicA st (ev st.T x) = some r) : OpOK P ρ fi st o r := by
  obtain ⟨t, y, hx, rfl⟩ := panicA_sound he
  intro μ b a w cs0 cs ops i rest k hfi hst ho hw
  have h1 := hst.ev x hx0
  rw [hx] at h1
  have h2 := h1
  simp only [VR] at h2
  obtain ⟨v', h2, h3⟩ := h2
  refine ⟨rfl, rfl, rfl, μ, w, _, .refl hst.hr, h1, .one (opStep_panic ho hw ?_)⟩
  rw [hsem, h2]
  rfl

theorem recover_sound {o : Oper} {r : OR} (hsem : ∀ evl, o.semAt none evl = pure .recover) (he : recoverA fi st = some r) : OpOK P ρ fi st o r := by
  intro μ b a w cs0 cs ops i rest k hfi hst ho hw
  unfold recoverA at he
  have hb : fi.rnd = none → b.roundOf = none := by
    intro h
    have := hfi.2
    rw [h] at this
    exact this
  have hrun : ∀ ro, ro = none → (o.semAt ro a.eval).run P w = .ok .recover w := by
    intro ro h; subst h; rw [hsem]; rfl
  have hpm := hst.pm
  split at he
  · rename_i h1 h2
    cases he
    rw [h2] at hpm
    obtain ⟨hk, rfl⟩ := hpm
    refine ⟨rfl, μ, a, w, cs, .nilIface, .refl hst.hr, by simp only [VR], rfl, hst.dr, hst.pm, .one (opStep_recover_none ho hw (hrun _ (hb h1)) (hb h1) ?_)⟩
    simp [tryRecover, Frame.atR, hk]
  · rename_i h1 h2
    cases he
    rw [h2] at hpm
    obtain ⟨hk, c, r, rfl, rfl⟩ := hpm
    refine ⟨rfl, μ, a, w, _, .nilIface, .refl hst.hr, by simp only [VR], rfl, hst.dr, hst.pm, .one (opStep_recover_none ho hw (hrun _ (hb h1)) (hb h1) ?_)⟩
    simp [tryRecover, Frame.atR, hk]
  · rename_i v h1 h2
    cases he
    rw [h2] at hpm
    obtain ⟨hk, c, r, v', rfl, hv, rfl⟩ := hpm
    refine ⟨rfl, μ, a, w, { c with mode := .panicking [{ v := v', recovered := true }] } :: r, v', .refl hst.hr, hv, rfl, hst.dr, ⟨hk, c, r, v', rfl, hv, rfl⟩, .one (opStep_recover_some ho hw (hrun _ (hb h1)) (hb h1) ?_)⟩
    simp [tryRecover, Frame.atR, hk]
  · rename_i v h1 h2
    cases he
    rw [h2] at hpm
    obtain ⟨hk, c, r, v', rfl, hv, rfl⟩ := hpm
    refine ⟨rfl, μ, a, w, _, .nilIface, .refl hst.hr, by simp only [VR], rfl, hst.dr, hst.pm, .one (opStep_recover_none ho hw (hrun _ (hb h1)) (hb h1) ?_)⟩
    simp [tryRecover, Frame.atR, hk]
  · cases he

theorem callOp_sound (hp : ProgOK P funs exts) (hg : Good P ρ rec) {o : Oper} {c : Call} {d : ADef} {r : OR} (hop : o.op = .call c) (hres : resolveA (ev st.T) c = some d)
    (he : invR rec st (invokeA exts st.h d.fn d.captured d.args) = some r) : OpOK P ρ fi st o r := by
  intro μ b a w cs0 cs ops i rest k hfi hst ho hw
  obtain ⟨fn', cap', args', hf, hc, ha, hrun⟩ := resolve_sound hres (fun x hx => hst.ev x (call_mem hop (.inl hx))) (fun x hx => hst.ev x (call_mem hop (.inr hx)))
  have hsem : o.semAt b.roundOf a.eval = (do
      let d ← resolve a.eval c o.type
      invoke d.target d.args) := by
    rw [semAt_of_kind (by rw [hop]; intro c h; cases h)]
    simp only [execOp, hop]
  have hsame : ∀ w, (o.semAt b.roundOf a.eval).run P w = (invoke (.fn fn' cap') args').run P w := by
    intro w
    rw [hsem, Sem.run_bind, hrun]
    rfl
  have hdoes := inv_does hp hg he hst.hr hf hc ha (b.atR a (.inRegion ops (i :: rest) :: k)) cs
  have hd2 : ∀ {res v w'}, Does P (invoke (.fn fn' cap') args') (b.atR a (.inRegion ops (i :: rest) :: k)) cs w res v w' → Does P (o.semAt b.roundOf a.eval) (b.atR a (.inRegion ops (i :: rest) :: k)) cs w res v w' := by
    intro res v w' h
    unfold Does at h ⊢
    simp only [hsame]
    exact h
  cases r with
  | val v st' =>
    obtain ⟨hst', μ', w', v', hok, hv, hd⟩ := hdoes
    rw [hst']
    refine ⟨rfl, μ', a, w', cs, v', hok, hv, rfl, DRs.mono hok.le hst.dr, hst.pm.mono hok.le, does_val ho hw (hd2 hd)⟩
  | panic v st' =>
    obtain ⟨hst', μ', w', v', hok, hv, hd⟩ := hdoes
    rw [hst']
    exact ⟨rfl, rfl, rfl, μ', w', v', hok, hv, does_panic ho hw (hd2 hd)⟩

theorem otherOp_sound (hp : ProgOK P funs exts) (hg : Good P ρ rec) {o : Oper} {r : OR} (he : otherOp exts rec fi st o = some r) : OpOK P ρ fi st o r := by
  unfold otherOp at he
  split at he
  · rename_i c hop
    split at he
    · rename_i hcl
      split at he
      · rename_i x hx
        refine panicOp_sound ?_ ?_ he
        intro ro evl
        rw [semAt_of_kind (by rw [hop]; intro c h; cases h)]
        have : c.args = #[x] := by apply Array.ext'; exact hx
        simp only [execOp, hop, resolve, hcl, this, pure_bind, invoke, builtin]
        rw [show (Array.map evl #[x]).getD 0 .nilIface = evl x from by simp]
        exact call_mem hop (.inr (by rw [hx]; simp))
      · cases he
    · rename_i hcl
      refine recover_sound ?_ he
      intro evl
      rw [semAt_of_kind (by rw [hop]; intro c h; cases h)]
      simp only [execOp, hop, resolve, hcl, pure_bind]
      rfl
    · cases he
    · split at he
      · rename_i d hd
        exact callOp_sound hp hg hop hd he
      · cases he
  · rename_i c hop
    split at he
    · rename_i d hrnd hd
      cases he
      intro μ b a w cs0 cs ops i rest k hfi hst ho hw
      have hb : b.roundOf = none := by
        have := hfi.2
        rw [hrnd] at this
        exact this
      obtain ⟨fn', cap', args', hf, hc, ha, hrun⟩ := resolve_sound hd (fun x hx => hst.ev x (defer_mem hop (.inl hx))) (fun x hx => hst.ev x (defer_mem hop (.inr hx)))
      refine ⟨rfl, μ, { a with defers := { target := .fn fn' cap', args := args' } :: a.defers }, w, cs, undef, .refl hst.hr, ?_, rfl, ⟨_, _, rfl, ⟨fn', cap', args', rfl, hf, hc, ha⟩, hst.dr⟩, hst.pm, .one (opStep_defer ho hw ?_)⟩
      · simp only [VR]; exact ⟨#[], rfl, .nil⟩
      · rw [hb]
        show (execOp a.eval o).run P w = _
        simp only [execOp, hop]
        rw [Sem.run_bind, hrun]
        rfl
    · cases he
  · rename_i x hop
    refine panicOp_sound ?_ ?_ he
    intro ro evl
    rw [semAt_of_kind (by rw [hop]; intro c h; cases h)]
    simp only [execOp, hop]
    rw [hop]; simp [Op.operands]
  · cases he

theorem opX_sound (hp : ProgOK P funs exts) (hg : Good P ρ rec) (horc : OrcOK P ρ orc) {o : Oper} {r : OR} (he : opX P orc exts rec fi st o = some r) : OpOK P ρ fi st o r := by
  unfold opX at he
  split at he
  · rename_i hk
    split at he
    · rename_i x hx
      cases he
      intro μ b a w cs0 cs ops i rest k hfi hst ho hw
      obtain ⟨v, hv, hrun⟩ := rdOp_sound hst.hr horc o hst.ev hx
      refine ⟨rfl, μ, a, w, cs, v, .refl hst.hr, hv, rfl, hst.dr, hst.pm, .one (opStep_next ho hw ?_ (.inl rfl))⟩
      rw [semAt_of_kind (fun c h => by rw [kind_nodefer h] at hk; cases hk)]
      exact hrun
    · cases he
  · rename_i hk
    split at he
    · rename_i x h' hx
      cases he
      intro μ b a w cs0 cs ops i rest k hfi hst ho hw
      obtain ⟨v, μ', w', nx, hok, hv, hnx, hrun⟩ := wrOp_sound hst.hr o hst.ev hx
      refine ⟨rfl, μ', a, w', cs, v, hok, hv, rfl, hst.dr.mono hok.le, hst.pm.mono hok.le, .one (opStep_next ho hw ?_ hnx)⟩
      rw [semAt_of_kind (fun c h => by rw [kind_nodefer h] at hk; cases hk)]
      exact hrun
    · cases he
  · exact otherOp_sound hp hg he
end
end Go.Ev
