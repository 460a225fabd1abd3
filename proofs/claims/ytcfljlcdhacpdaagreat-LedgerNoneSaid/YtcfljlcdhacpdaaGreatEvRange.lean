/- Range over a function: the statement, and its rounds. -/
import Derived.Test.YtcfljlcdhacpdaaGreatEvTask
import Derived.RangeFuncIn
namespace Go.Ev
section
variable {P : Program} {ρ : Nat → Value} {orc : BinOp → Nat → AVal → Option Bool} {funs : FuncId → Option Func} {exts : FuncId → Option Ext} {rec : Task → St → Option Out} {fi : FI}

theorem putAll_sound {μ : Mu} : ∀ (ts : List Tmp) (vs : List AVal) (T T' : Tr AVal) (tm : Array Value) (vs' : List Value), putAll fi T ts vs = some T' → TR ρ μ fi.nt T tm → VRs ρ μ vs vs' →
    ts.length = vs'.length ∧ TR ρ μ fi.nt T' ((ts.zip vs').foldl (fun tmps (p : Tmp × Value) => tmps.setIfInBounds p.1 p.2) tm) := by
  intro ts
  induction ts with
  | nil =>
    intro vs T T' tm vs' he ht hv
    cases vs with
    | nil => simp only [putAll] at he; cases he; rw [hv.nil_inv]; exact ⟨rfl, ht⟩
    | cons x vs => simp only [putAll] at he; cases he
  | cons t ts ih =>
    intro vs T T' tm vs' he ht hv
    cases vs with
    | nil => simp only [putAll] at he; cases he
    | cons x vs =>
      simp only [putAll] at he
      split at he
      · rename_i T1 hput
        obtain ⟨v, ws, rfl, h1, h2⟩ := hv.cons_inv
        have ht1 := putT_sound' (a := { tmps := tm, defers := [] }) (a' := { tmps := tm, defers := [] }) hput ht rfl h1
        obtain ⟨k1, k2⟩ := ih _ _ _ _ _ he ht1 h2
        exact ⟨by simp [k1], k2⟩
      · cases he

theorem loop_get {μ : Mu} {h : AH} {w : World} (hr : HR P ρ μ h w) {l : Nat} {m : Nat × Nat × Nat} {r : ALoop} (hm : μ l = some m) (hl : h.m.get l = some (.loop r)) :
    ∃ tm md, w.heap[m.1]? = some (.loop { state := r.state, pending := r.pending, fn := r.fn, tmps := tm, params := r.params, assign := r.assign, body := r.body, defers := md }) ∧ TR ρ μ r.nt r.tmps tm ∧
      ∃ q, μ r.defers = some q ∧ q.1 = md := by
  obtain ⟨ob, hob, ho⟩ := hr.obj _ _ _ hl hm
  simp only [ObjR] at ho
  obtain ⟨tm, q, rfl, h1, h2⟩ := ho
  exact ⟨tm, q.1, hob, h1, q, h2, rfl⟩

theorem loop_upd {μ : Mu} {h : AH} {w : World} (hr : HR P ρ μ h w) {l : Nat} {m : Nat × Nat × Nat} {r : ALoop} {tm : Array Value} {md : Nat} (hm : μ l = some m) (hl : h.m.get l = some (.loop r))
    (hob : w.heap[m.1]? = some (.loop { state := r.state, pending := r.pending, fn := r.fn, tmps := tm, params := r.params, assign := r.assign, body := r.body, defers := md })) (ht : TR ρ μ r.nt r.tmps tm)
    (hq : ∃ q, μ r.defers = some q ∧ q.1 = md) (s : LoopState) (p : Option Code) :
    Ok P ρ μ h w μ (h.upd l (.loop { r with state := s, pending := p })) (w.putObj m.1 (.loop { state := s, pending := p, fn := r.fn, tmps := tm, params := r.params, assign := r.assign, body := r.body, defers := md })) := by
  obtain ⟨q, h1, rfl⟩ := hq
  have hlt := (Array.getElem?_eq_some_iff.1 hob).1
  refine Ok.upd hr hm hl (ob := .loop { state := s, pending := p, fn := r.fn, tmps := tm, params := r.params, assign := r.assign, body := r.body, defers := q.1 }) ?_ ?_ (fun c hc => World.putObj_heap_other hc) World.putObj_size rfl rfl rfl
  · exact ⟨tm, q, rfl, ht, h1⟩
  · simp [World.putObj, hlt]

theorem endRound_sound {μ : Mu} {h h' : AH} {w : World} (hr : HR P ρ μ h w) {l : Nat} {m : Nat × Nat × Nat} (hm : μ l = some m) {jump : Option Code} (he : endRoundA h l jump = some h') :
    ∃ w', (Instr.endRound m.1 jump).run P w = .ok (.bool jump.isNone) w' ∧ Ok P ρ μ h w μ h' w' := by
  unfold endRoundA at he
  split at he
  · rename_i r hl
    cases he
    obtain ⟨tm, md, hob, ht, hq⟩ := loop_get hr hm hl
    refine ⟨_, run_endRound jump hob, ?_⟩
    cases jump with
    | none => exact loop_upd hr hm hl hob ht hq .ready none
    | some c => exact loop_upd hr hm hl hob ht hq .done (some c)
  · cases he

theorem endLoop_sound {μ : Mu} {h h' : AH} {w : World} (hr : HR P ρ μ h w) {l : Nat} {m : Nat × Nat × Nat} (hm : μ l = some m) {jump : Option Code} (he : endLoopA h l = some (jump, h')) :
    ∃ w', (Instr.endLoop m.1).run P w = .ok jump w' ∧ Ok P ρ μ h w μ h' w' := by
  unfold endLoopA at he
  split at he
  · rename_i r hl
    obtain ⟨tm, md, hob, ht, hq⟩ := loop_get hr hm hl
    split at he
    · cases he
    · rename_i hs
      cases he
      exact ⟨_, run_endLoop hob (fun e => hs e), loop_upd hr hm hl hob ht hq .exhausted r.pending⟩
  · cases he

theorem range_sound (hp : ProgOK P funs exts) (hg : Good P ρ rec) : RangeOK P ρ orc exts rec := by
  intro fi f params assign body st out he μ b a w k cs0 cs hfi hst
  simp only [execC] at he
  split at he
  case h_2 => cases he
  rename_i fn first captured hf
  split at he
  case h_2 => cases he
  rename_i hrnd
  split at he
  case h_2 => cases he
  rename_i g args hinv
  have hb : b.roundOf = none := by
    have := hfi.2
    rw [hrnd] at this
    exact this
  obtain ⟨k1, k2, k3⟩ := Ok.push (P := P) (ρ := ρ) hst.hr (o := .deferred (some [])) (ob := .deferred (some [])) 0 0 ⟨[], rfl, rfl⟩
  have hq : muNew μ st.h w 0 0 st.h.next = some (w.heap.size, 0, 0) := k2
  have hloop : ∀ μ' : Mu, Mu.le (muNew μ st.h w 0 0) μ' → ∀ m, ObjR P ρ μ' (.loop { state := .ready, pending := none, fn := fi.fn, tmps := st.T, nt := fi.nt, params, assign, body, defers := st.h.next }) m
      (.loop { state := .ready, pending := none, fn := b.fn, tmps := a.tmps, params := params, assign, body, defers := w.heap.size }) := by
    intro μ' hle m
    refine ⟨a.tmps, (w.heap.size, 0, 0), ?_, hst.tr.mono (k3.trans hle), hle _ _ hq⟩
    rw [hfi.1]
  obtain ⟨l1, l2, l3⟩ := Ok.push (P := P) (ρ := ρ) k1.hr (o := .loop { state := .ready, pending := none, fn := fi.fn, tmps := st.T, nt := fi.nt, params, assign, body, defers := st.h.next })
    (ob := .loop { state := .ready, pending := none, fn := b.fn, tmps := a.tmps, params := params, assign, body, defers := w.heap.size }) 0 0 (hloop _ (muNew_le k1.hr 0 0) _)
  have hsz : (pushObj w (.deferred (some []))).heap.size = w.heap.size + 1 := by show (w.heap.push _).size = _; rw [Array.size_push]
  have hok := k1.trans l1
  have henter := run_enterLoop_outer (P := P) (w := w) b.fn a.tmps params assign body
  rw [← hb] at henter
  have hfv := VR.mono hok.le _ _ (ev_sound hst.tr f)
  rw [hf] at hfv
  simp only [VR] at hfv
  obtain ⟨fn', vs, ws, hev, hfr, hvs, hws⟩ := hfv
  have hmark : muNew (muNew μ st.h w 0 0) (st.h.new (.deferred (some []))) (pushObj w (.deferred (some []))) 0 0 (st.h.next + 1) = some (w.heap.size + 1, 0, 0) := by
    have := l2
    rw [hsz] at this
    exact this
  have hy : VRs ρ (muNew (muNew μ st.h w 0 0) (st.h.new (.deferred (some []))) (pushObj w (.deferred (some []))) 0 0) (first ++ [.fn (.yield (st.h.next + 1)) [] []])
      (vs ++ #[Value.func (.yield (w.heap.size + 1)) #[] #[]]).toList := by
    refine vrs_append hvs ?_
    refine .cons ?_ .nil
    simp only [VR]
    exact ⟨_, #[], #[], rfl, ⟨_, hmark, rfl⟩, .nil, .nil⟩
  have hres' : ∀ n w, (resolve a.eval (rangeCall f n) 0).run P w = .ok { target := .fn fn' ws, args := vs ++ #[Value.func (.yield n) #[] #[]] } w := by
    intro n w
    show (Deferred.ofValue (a.eval f) (#[Operand.const (.func (.yield n) #[] #[])].map a.eval)).run P w = _
    rw [hev, show (#[Operand.const (.func (.yield n) #[] #[])].map a.eval) = #[Value.func (.yield n) #[] #[]] from by simp [Act.eval]]
    rfl
  have hmain : ∀ o2, rec (.call g args) { st with h := (st.h.new (.deferred (some []))).new (.loop { state := .ready, pending := none, fn := fi.fn, tmps := st.T, nt := fi.nt, params, assign, body, defers := st.h.next }), ds := .collected st.h.next :: st.ds } = some o2 →
      ∃ μ2 w2, Ok P ρ μ st.h w μ2 o2.st.h w2 ∧ μ2 (st.h.next + 1) = some (w.heap.size + 1, 0, 0) ∧ DRs ρ μ2 (.collected st.h.next :: st.ds) ([{ target := .collected w.heap.size, args := #[] }] ++ a.defers) ∧
        ((o2.ex = .ret ∧ Steps P (lone (b.atR a (.code (.rangeFunc f params assign body) :: k)) cs w) (lone (b.atR { a with defers := [{ target := .collected w.heap.size, args := #[] }] ++ a.defers } (.endRangeFunc (w.heap.size + 1) :: k)) cs w2)) ∨
         (∃ pv v, o2.ex = .panic pv ∧ VR ρ μ2 pv v ∧ Steps P (lone (b.atR a (.code (.rangeFunc f params assign body) :: k)) cs w)
            (lone { b.atR { a with defers := [{ target := .collected w.heap.size, args := #[] }] ++ a.defers } (.inRangeFunc (w.heap.size + 1) :: k) with mode := .panicking [{ v, recovered := false }] } cs w2))) := by
    intro o2 hrec
    obtain ⟨hcf, hcall⟩ := hg _ _ _ hrec
    unfold invokeA at hinv
    cases hdf : fn with
    | func g0 =>
      rw [hdf] at hinv hfr
      simp only [FR] at hfr
      subst hfr
      simp only [callA] at hinv
      cases hex : exts g0 with
      | some e =>
        rw [hex] at hinv
        simp only at hinv
        split at hinv <;> cases hinv
      | none =>
        rw [hex] at hinv
        cases hinv
        have hinvk : ∀ w', (invoke (.fn (.func g) ws) (vs ++ #[Value.func (.yield (w.heap.size + 1)) #[] #[]])).run P w' = .ok (.enter g ((vs ++ #[Value.func (.yield (w.heap.size + 1)) #[] #[]]) ++ ws)) w' := fun w' => hcf _ _
        have hstep := stepR_rangeFunc (b := b) (a := a) (k := k) (cs := cs) henter (hres' _ _) (hinvk _)
        obtain ⟨μ2, w2, fr, m1, m2, _, m4⟩ := hcall _ _ ((vs ++ #[Value.func (.yield (w.heap.size + 1)) #[] #[]]) ++ ws) l1.hr (vrs_append hy hws) (b.atR { a with defers := [{ target := .collected w.heap.size, args := #[] }] ++ a.defers } (.inRangeFunc (w.heap.size + 1) :: k) :: cs)
        refine ⟨μ2, w2, hok.trans m1, m1.le _ _ hmark, ⟨_, _, rfl, ⟨_, m1.le _ _ (l3 _ _ hq), rfl⟩, hst.dr.mono (hok.le.trans m1.le)⟩, ?_⟩
        rcases m4 with ⟨e, v, _, hl⟩ | ⟨pv, v, e, hv, hl⟩
        · refine .inl ⟨e, (Steps.head hstep m2).trans (.one ?_)⟩
          have := step_leave_returned (cs := cs) hl (c := b.atR { a with defers := [{ target := .collected w.heap.size, args := #[] }] ++ a.defers } (.inRangeFunc (w.heap.size + 1) :: k))
          rw [finish_atR_inRangeFunc] at this
          exact this
        · refine .inr ⟨pv, v, e, hv, (Steps.head hstep m2).trans (.one ?_)⟩
          have := step_leave_panicked (cs := cs) hl (c := b.atR { a with defers := [{ target := .collected w.heap.size, args := #[] }] ++ a.defers } (.inRangeFunc (w.heap.size + 1) :: k))
          rw [Frame.raise_atR] at this
          exact this
    | _ => rw [hdf] at hinv; simp at hinv
  split at he
  · rename_i v0 st2 hrec
    obtain ⟨μ2, w2, n1, n2, n3, n4⟩ := hmain _ hrec
    have hsteps := n4.resolve_right (fun ⟨_, _, h, _⟩ => by cases h)
    cases hend : endLoopA st2.h (st.h.next + 1) with
    | none => rw [hend] at he; cases he
    | some q =>
      obtain ⟨jump, h2⟩ := q
      rw [hend] at he
      obtain ⟨w3, p1, p2⟩ := endLoop_sound n1.hr n2 hend
      have hs3 := hsteps.2.trans (.one (stepR_endRangeFunc p1))
      have hstr : ∀ st3 : St, st3 = { st with ds := .collected st.h.next :: st.ds, h := h2 } → StR P ρ μ2 fi st3 b { a with defers := [{ target := .collected w.heap.size, args := #[] }] ++ a.defers } w3 cs0 cs := by
        intro st3 e
        subst e
        exact ⟨p2.hr, hst.tr.mono n1.le, n3, hst.pm.mono n1.le⟩
      split at he
      · rename_i e; cases e
        simp only [Ev.out] at he; cases he
        exact ⟨μ2, _, w3, cs, _, n1.trans p2, hstr _ rfl, rfl, hs3⟩
      · rename_i e; cases e
        simp only [Ev.out] at he; cases he
        exact ⟨μ2, _, w3, cs, _, n1.trans p2, hstr _ rfl, ⟨k, rfl⟩, hs3⟩
      · rename_i e; cases e
        simp only [Ev.out] at he; cases he
        exact ⟨μ2, _, w3, cs, _, n1.trans p2, hstr _ rfl, ⟨k, rfl, rfl⟩, hs3⟩
      · cases he
  · rename_i pv v0 st2 hrec
    obtain ⟨μ2, w2, n1, n2, n3, n4⟩ := hmain _ hrec
    simp only [Ev.out] at he; cases he
    rcases n4 with ⟨h, _⟩ | ⟨pv', v, h, hv, hs⟩
    · cases h
    · injection h with h
      rw [← h] at hv
      exact ⟨μ2, { a with defers := [{ target := .collected w.heap.size, args := #[] }] ++ a.defers }, w2, cs, _, n1, ⟨n1.hr, hst.tr.mono n1.le, n3, hst.pm.mono n1.le⟩, ⟨_, v, hv, rfl⟩, hs⟩
  · cases he
end
end Go.Ev
