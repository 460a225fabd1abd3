/- Code: what a frame's run comes to. -/
import Derived.Test.YtcfljlcdhacpdaaGreatEvPlan3
namespace Go.Ev
section
variable {P : Program} {ρ : Nat → Value} {orc : BinOp → Nat → AVal → Option Bool} {funs : FuncId → Option Func} {exts : FuncId → Option Ext} {rec : Task → St → Option Out} {fi : FI}

theorem stepR_scope {b : Frame} {a : Act} {k : List Item} {cs : List Frame} {w : World} {c : Code} :
    step P (lone (b.atR a (.code (.scope c) :: k)) cs w) = .next (lone (b.atR a (.code c :: .inScope c :: k)) cs w) :=
  step_lone_go (by simp [stepG, stepG.exec, Frame.atR])

theorem stepR_inScope {b : Frame} {a : Act} {k : List Item} {cs : List Frame} {w : World} {c : Code} :
    step P (lone (b.atR a (.inScope c :: k)) cs w) = .next (lone (b.atR a k) cs w) :=
  step_lone_go (by simp [stepG, stepG.exec, Frame.atR])

/-- an item that lets jumps through -/
theorem ArrF.through {μ : Mu} {b : Frame} {a : Act} {it : Item} {k : List Item} {fr : Frame} {ex : Ex} (hne : ex ≠ .normal) (hit : ∀ id, exitTo id (it :: k) = exitTo id k) (h : ArrF ρ μ ex b a (it :: k) fr) : ArrF ρ μ ex b a k fr := by
  cases ex with
  | normal => exact absurd rfl hne
  | exit id => obtain ⟨k2, h1, h2⟩ := h; exact ⟨k2, h1, by rw [h2, hit]⟩
  | ret => exact h
  | panic v => exact h

theorem out_eta {o : Out} {ex : Ex} (h : o.ex = ex) : o = ⟨ex, o.val, o.st⟩ := by cases o; cases h; rfl

/-- running on -/
theorem RunOK.pre {start start' : List Item → List Item} {st : St} {out : Out} (h : RunOK P ρ start' fi st out)
    (hs : ∀ (b : Frame) (a : Act) (w : World) (k : List Item) (cs : List Frame), step P (lone (b.atR a (start k)) cs w) = .next (lone (b.atR a (start' k)) cs w)) : RunOK P ρ start fi st out := by
  intro μ b a w k cs0 cs hfi hst
  obtain ⟨μ', a', w', cs', fr, k1, k2, k3, k4⟩ := h μ b a w k cs0 cs hfi hst
  exact ⟨μ', a', w', cs', fr, k1, k2, k3, .head (hs b a w k cs) k4⟩

/-- one piece, then what follows it -/
theorem RunOK.seq {start : List Item → List Item} {it : List Item → Item} {nxt : List Item → List Item} {st : St} {o1 out : Out} (h1 : RunOK P ρ start fi st o1) (hit : ∀ id k, exitTo id (it k :: k) = exitTo id k)
    (hn : o1.ex = .normal → RunOK P ρ nxt fi o1.st out) (hx : o1.ex ≠ .normal → out = o1)
    (hs : ∀ (b : Frame) (a : Act) (w : World) (k : List Item) (cs : List Frame), Steps P (lone (b.atR a (it k :: k)) cs w) (lone (b.atR a (nxt k)) cs w)) :
    RunOK P ρ (fun k => start (it k :: k)) fi st out := by
  intro μ b a w k cs0 cs hfi hst
  obtain ⟨μ', a', w', cs', fr, k1, k2, k3, k4⟩ := h1 μ b a w (it k :: k) cs0 cs hfi hst
  by_cases he : o1.ex = .normal
  · rw [he] at k3
    simp only [ArrF] at k3
    subst k3
    obtain ⟨μ2, a2, w2, cs2, fr2, l1, l2, l3, l4⟩ := hn he μ' b a' w' k cs0 cs' (hfi.mono k1.le) k2
    exact ⟨μ2, a2, w2, cs2, fr2, k1.trans l1, l2, l3, (k4.trans (hs b a' w' k cs')).trans l4⟩
  · rw [hx he]
    exact ⟨μ', a', w', cs', fr, k1, k2, k3.through he (fun id => hit id k), k4⟩

theorem RunOK.here {start : List Item → List Item} {st : St} {ex : Ex} {v : AVal} (harr : ∀ (μ : Mu) (b : Frame) (a : Act) (k : List Item) (cs : List Frame) (w : World), ∃ fr, ArrF ρ μ ex b a k fr ∧ Steps P (lone (b.atR a (start k)) cs w) (lone fr cs w)) :
    RunOK P ρ start fi st ⟨ex, v, st⟩ := by
  intro μ b a w k cs0 cs hfi hst
  obtain ⟨fr, h1, h2⟩ := harr μ b a k cs w
  exact ⟨μ, a, w, cs, fr, .refl hst.hr, hst, h1, h2⟩

/-- what a range over a function does -/
def RangeOK (P : Program) (ρ : Nat → Value) (orc : BinOp → Nat → AVal → Option Bool) (exts : FuncId → Option Ext) (rec : Task → St → Option Out) : Prop :=
  ∀ (fi : FI) (f : Operand) (params : Array Tmp) (assign body : Code) (st : St) (out : Out), execC P orc exts rec fi (.rangeFunc f params assign body) st = some out →
    RunOK P ρ (fun k => .code (.rangeFunc f params assign body) :: k) fi st out

theorem execC_sound (hp : ProgOK P funs exts) (hg : Good P ρ rec) (horc : OrcOK P ρ orc) (hrange : RangeOK P ρ orc exts rec) : ∀ (c : Code) (st : St) (out : Out), execC P orc exts rec fi c st = some out →
    RunOK P ρ (fun k => .code c :: k) fi st out := by
  intro c
  induction c with
  | skip => intro st out he; simp only [execC, Ev.out] at he; cases he; exact .here fun μ b a k cs w => ⟨_, rfl, .one stepR_skip⟩
  | label l => intro st out he; simp only [execC, Ev.out] at he; cases he; exact .here fun μ b a k cs w => ⟨_, rfl, .one stepR_label⟩
  | ret => intro st out he; simp only [execC, Ev.out] at he; cases he; exact .here fun μ b a k cs w => ⟨_, ⟨k, rfl⟩, .refl _ _⟩
  | exit id => intro st out he; simp only [execC, Ev.out] at he; cases he; exact .here fun μ b a k cs w => ⟨_, ⟨k, rfl, rfl⟩, .refl _ _⟩
  | goto l => intro st out he; simp only [execC] at he; cases he
  | refuse y => intro st out he; simp only [execC] at he; cases he
  | seq x y ihx ihy =>
    intro st out he
    simp only [execC] at he
    cases hx : execC P orc exts rec fi x st with
    | none => rw [hx] at he; cases he
    | some o1 =>
      rw [hx] at he
      refine RunOK.pre (start' := fun k => .code x :: .code y :: k) ?_ fun b a w k cs => stepR_seq
      refine RunOK.seq (it := fun _ => .code y) (nxt := fun k => .code y :: k) (ihx st o1 hx) (fun id k => rfl) ?_ ?_ fun b a w k cs => .refl _ _
      · intro hn
        rw [out_eta hn] at he
        exact ihy _ _ he
      · intro hn
        obtain ⟨ex, v, s⟩ := o1
        cases ex with
        | normal => exact absurd rfl hn
        | _ => simp only at he; cases he; rfl
  | cond q x y ihx ihy =>
    intro st out he
    simp only [execC] at he
    split at he
    · rename_i hq
      intro μ b a w k cs0 cs hfi hst
      obtain ⟨μ', a', w', cs', fr, k1, k2, k3, k4⟩ := ihx st out he μ b a w k cs0 cs hfi hst
      have h1 := ev_sound hst.tr q
      rw [hq] at h1
      simp only [VR] at h1
      exact ⟨μ', a', w', cs', fr, k1, k2, k3, .head (stepR_cond h1) k4⟩
    · rename_i hq
      intro μ b a w k cs0 cs hfi hst
      obtain ⟨μ', a', w', cs', fr, k1, k2, k3, k4⟩ := ihy st out he μ b a w k cs0 cs hfi hst
      have h1 := ev_sound hst.tr q
      rw [hq] at h1
      simp only [VR] at h1
      exact ⟨μ', a', w', cs', fr, k1, k2, k3, .head (stepR_cond h1) k4⟩
    · cases he
  | block id x ih =>
    intro st out he
    simp only [execC] at he
    refine RunOK.pre (start' := fun k => .code x :: .inBlock id :: k) ?_ fun b a w k cs => stepR_block
    intro μ b a w k cs0 cs hfi hst
    cases hx : execC P orc exts rec fi x st with
    | none => rw [hx] at he; cases he
    | some o1 =>
      rw [hx] at he
      obtain ⟨μ', a', w', cs', fr, k1, k2, k3, k4⟩ := ih st o1 hx μ b a w (.inBlock id :: k) cs0 cs hfi hst
      obtain ⟨ex, v, s⟩ := o1
      cases ex with
      | normal =>
        simp only at he; cases he
        simp only [ArrF] at k3; subst k3
        exact ⟨μ', a', w', cs', _, k1, k2, rfl, k4.trans (.one stepR_inBlock)⟩
      | exit id' =>
        simp only at he
        obtain ⟨kk, h1, h2⟩ := k3
        split at he
        · rename_i hb
          have e := beq_eq hb
          subst e
          simp only [Ev.out] at he; cases he
          subst h1
          refine ⟨μ', a', w', cs', _, k1, k2, rfl, k4.trans (.one (stepR_exit (k' := k) ?_))⟩
          rw [h2]; simp [exitTo]
        · rename_i hb
          cases he
          refine ⟨μ', a', w', cs', fr, k1, k2, ⟨kk, h1, ?_⟩, k4⟩
          rw [h2]
          have : ¬ id = id' := by
            intro e; subst e
            rw [Nat.beq_refl] at hb; cases hb
          simp [exitTo, this]
      | ret => simp only at he; cases he; exact ⟨μ', a', w', cs', fr, k1, k2, k3, k4⟩
      | panic pv => simp only at he; cases he; exact ⟨μ', a', w', cs', fr, k1, k2, k3, k4⟩
  | scope x ih =>
    intro st out he
    simp only [execC] at he
    refine RunOK.pre (start' := fun k => .code x :: .inScope x :: k) ?_ fun b a w k cs => stepR_scope
    refine RunOK.seq (it := fun _ => .inScope x) (nxt := fun k => k) (out := out) (ih st out he) (fun id k => rfl) ?_ (fun _ => rfl) fun b a w k cs => .one stepR_inScope
    intro hn
    rw [out_eta hn]
    exact RunOK.here fun μ b a k cs w => ⟨_, rfl, .refl _ _⟩
  | loop x ih =>
    intro st out he
    simp only [execC] at he
    exact RunOK.pre (hg _ _ _ he) fun b a w k cs => stepR_loop
  | region id ops draw =>
    intro st out he
    cases draw with
    | false => simp only [execC] at he; exact region_sound hp hg horc he
    | true =>
      simp only [execC] at he
      split at he
      · rename_i plan hpl
        exact regionD_sound hp hg horc hpl he
      · cases he
  | rangeFunc f params assign body _ _ => intro st out he; exact hrange _ _ _ _ _ _ _ he

/-- a loop -/
theorem loop_sound (hp : ProgOK P funs exts) (hg : Good P ρ rec) (horc : OrcOK P ρ orc) (hrange : RangeOK P ρ orc exts rec) {body : Code} {st : St} {out : Out} (he : F P orc funs exts rec (.loop fi body) st = some out) :
    TaskOK P ρ (.loop fi body) st out := by
  simp only [F] at he
  cases hx : execC P orc exts rec fi body st with
  | none => rw [hx] at he; cases he
  | some o1 =>
    rw [hx] at he
    refine RunOK.seq (start := fun k => .code body :: k) (it := fun _ => .inLoop body) (nxt := fun k => .code body :: .inLoop body :: k) (execC_sound hp hg horc hrange body st o1 hx) (fun id k => rfl) ?_ ?_ fun b a w k cs => .one stepR_inLoop
    · intro hn
      rw [out_eta hn] at he
      exact hg _ _ _ he
    · intro hn
      obtain ⟨ex, v, s⟩ := o1
      cases ex with
      | normal => exact absurd rfl hn
      | _ => simp only at he; cases he; rfl
end
end Go.Ev
