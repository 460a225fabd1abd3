/- A plan and the machine's own order: what holds between them. -/
import Derived.Test.YtcfljlcdhacpdaaGreatEvPlan0
namespace Go.Ev

/-- a reading operation that the plan has done and the machine has not: its value is still right -/
def Pend (P : Program) (orc : BinOp → Nat → AVal → Option Bool) (nt : Nat) (ops : Array Oper) (st : St) (i : Nat) : Prop :=
  ∃ o, ops[i]? = some o ∧ (∀ d, o.dst = some d → d < nt) ∧
    ((wantedA ops st.T o = some true ∧ ∃ v, rdOp P orc st.h (ev st.T) o.op = some v ∧ ∀ d y, o.dst = some d → st.T.get d = some y → y = v) ∨
     (wantedA ops st.T o = some false ∧ ∀ d y, o.dst = some d → st.T.get d = some y → y = .tup []))

structure AlRec where
  aobj : AObj
  mka : Nat → AVal
  mkv : Nat → Value
  ob : Obj
  sz : Nat
  es : Nat

structure AlOK (P : Program) (o : Oper) (A : AlRec) : Prop where
  wr : ∀ h e, wrOp P h e o = some (A.mka h.next, h.new A.aobj)
  run : ∀ evl w, (execOp evl o).run P w = .ok (.value (A.mkv w.heap.size)) (pushObj w A.ob)
  obj : ∀ ρ μ c, ObjR P ρ μ A.aobj (c, A.sz, A.es) A.ob
  val : ∀ ρ (μ : Mu) b c, μ b = some (c, A.sz, A.es) → VR ρ μ (A.mka b) (A.mkv c)
  guard : o.guard = none
  nodef : ∀ c, o.op ≠ .defer c

/-- memory that the machine has made and the plan has not -/
def Early (P : Program) (nt : Nat) (ops : Array Oper) (w0 : World) (μ : Mu) (a : Act) (w : World) (i c : Nat) : Prop :=
  ∃ o A, ops[i]? = some o ∧ AlOK P o A ∧ (∀ d, o.dst = some d → d < nt → a.tmps.getD d undef = A.mkv c) ∧ w.heap[c]? = some A.ob ∧ w0.heap.size ≤ c ∧ ∀ b m, μ b = some m → m.1 ≠ c

def Exc (n D : Nat) (π : List Nat) (i : Nat) : Prop := (bit D i = true ∧ i ∈ π) ∨ (i < n ∧ bit D i = false ∧ i ∉ π)

structure DI (P : Program) (ρ : Nat → Value) (orc : BinOp → Nat → AVal → Option Bool) (fi : FI) (ops : Array Oper) (ms : Tr Nat) (rdM alM : Nat) (b : Frame) (cs0 : List Frame) (μ0 : Mu) (h0 : AH) (w0 : World)
    (D : Nat) (st : St) (π : List Nat) (μ : Mu) (a : Act) (w : World) (cs : List Frame) : Prop where
  nodup : π.Nodup
  lt : ∀ j ∈ π, j < ops.size
  ord : ∀ π1 j π2, π = π1 ++ j :: π2 → ∀ i, bit (maskAt ms j) i = true → i ∉ j :: π2
  down : ∀ i, i < ops.size → i ∉ π → ∀ j, bit (maskAt ms i) j = true → j ∉ π
  closed : ∀ j i, bit D j = true → bit (maskAt ms j) i = true → bit D i = true
  pend : ∀ i ∈ π, bit D i = true → bit rdM i = true ∧ Pend P orc fi.nt ops st i
  early : ∃ c : Nat → Nat, (∀ i, i < ops.size → bit D i = false → i ∉ π → bit alM i = true ∧ Early P fi.nt ops w0 μ a w i (c i)) ∧
    ∀ i j, (i < ops.size ∧ bit D i = false ∧ i ∉ π) → (j < ops.size ∧ bit D j = false ∧ j ∉ π) → c i = c j → i = j
  ok : Ok P ρ μ0 h0 w0 μ st.h w
  sz : a.tmps.size = fi.nt
  tr : ∀ t x, st.T.get t = some x → (∀ i o, ops[i]? = some o → o.dst = some t → ¬ Exc ops.size D π i) → VR ρ μ x (a.tmps.getD t undef)
  dr : DRs ρ μ st.ds a.defers
  pm : PMR ρ μ st.pm b.kind cs0 cs
  fir : FIR μ fi b

section
variable {P : Program} {ρ : Nat → Value} {orc : BinOp → Nat → AVal → Option Bool} {fi : FI} {ops : Array Oper} {ms : Tr Nat} {rdM alM : Nat} {plan : List PSt} {b : Frame} {cs0 : List Frame}
  {μ0 : Mu} {h0 : AH} {w0 : World} {D : Nat} {st : St} {π : List Nat} {μ : Mu} {a : Act} {w : World} {cs : List Frame}

theorem al_ok (pl : Planned P ops ms rdM alM plan) {i : Nat} (h : bit alM i = true) : ∃ o A, ops[i]? = some o ∧ AlOK P o A := by
  obtain ⟨o, ho, ha, r, hr⟩ := pl.al i h
  obtain ⟨aobj, mk, mkv, ob, sz, es, h1, h2, h3, h4, h5, h6⟩ := al_spec ha hr
  exact ⟨o, ⟨aobj, mk, mkv, ob, sz, es⟩, ho, h1, h2, h3, h4, h5, h6⟩

theorem rd_not_al (pl : Planned P ops ms rdM alM plan) {i : Nat} (h : bit rdM i = true) : bit alM i = false := by
  cases hq : bit alM i with
  | false => rfl
  | true =>
    obtain ⟨o, ho, hr⟩ := pl.rd i h
    obtain ⟨o', ho', ha, _⟩ := pl.al i hq
    rw [ho] at ho'; cases ho'
    unfold isAl at ha
    unfold isRd at hr
    split at ha
    · split at ha
      · rename_i hop; rw [hop] at hr; simp [kindOf] at hr
      · rename_i hop; rw [hop] at hr; simp [kindOf] at hr
      · cases ha
    · cases ha

theorem getD_put_ne {d : Option Tmp} {v : Value} {t : Tmp} (h : d ≠ some t) : (a.put d v).tmps.getD t undef = a.tmps.getD t undef := by
  cases d with
  | none => rfl
  | some d =>
    have : d ≠ t := fun e => h (by rw [e])
    simp only [Act.put, Array.getD_eq_getD_getElem?, Array.getElem?_setIfInBounds_ne this]

theorem getD_put_eq {v : Value} {t : Tmp} (h : t < a.tmps.size) : (a.put (some t) v).tmps.getD t undef = v := by
  simp [Act.put, Array.getD, h]

theorem put_size (a : Act) (d : Option Tmp) (v : Value) : (a.put d v).tmps.size = a.tmps.size := by cases d <;> simp [Act.put]

/-- what an operation that is next reads is as the machine has it -/
theorem DI.rel (pl : Planned P ops ms rdM alM plan) {j : Nat} {o : Oper} (hD : DI P ρ orc fi ops ms rdM alM b cs0 μ0 h0 w0 D st (j :: π) μ a w cs) (ho : ops[j]? = some o)
    (hcl : ∀ i, bit (maskAt ms j) i = true → bit D i = true) : ∀ t ∈ reads ops o, ∀ x, st.T.get t = some x → VR ρ μ x (a.tmps.getD t undef) := by
  intro t ht x hx
  refine hD.tr t x hx ?_
  intro i oi hoi hdst hexc
  rcases pl.reads j o i oi t ho hoi hdst ht with hM | ⟨_, hr, hal⟩
  · have h1 := hD.ord [] j π rfl i hM
    have h2 := hcl i hM
    rcases hexc with ⟨_, h⟩ | ⟨_, h, _⟩
    · exact h1 h
    · rw [h2] at h; cases h
  · rcases hexc with ⟨h, h'⟩ | ⟨h, h', h''⟩
    · rw [(hD.pend i h' h).1] at hr; cases hr
    · obtain ⟨c, hc, _⟩ := hD.early
      rw [(hc i h h' h'').1] at hal; cases hal

theorem ord_tail {j : Nat} (h : ∀ π1 i π2, j :: π = π1 ++ i :: π2 → ∀ k, bit (maskAt ms i) k = true → k ∉ i :: π2) : ∀ π1 i π2, π = π1 ++ i :: π2 → ∀ k, bit (maskAt ms i) k = true → k ∉ i :: π2 :=
  fun π1 i π2 e => h (j :: π1) i π2 (by rw [e]; rfl)

theorem down_tail {j : Nat} (ho : ∀ π1 i π2, j :: π = π1 ++ i :: π2 → ∀ k, bit (maskAt ms i) k = true → k ∉ i :: π2)
    (h : ∀ i, i < ops.size → i ∉ j :: π → ∀ k, bit (maskAt ms i) k = true → k ∉ j :: π) : ∀ i, i < ops.size → i ∉ π → ∀ k, bit (maskAt ms i) k = true → k ∉ π := by
  intro i hi hni k hk hm
  by_cases e : i = j
  · subst e; exact ho [] i π rfl k hk (by simp [hm])
  · exact h i hi (by simp [e, hni]) k hk (by simp [hm])

/-- the machine makes up for a reader -/
theorem DI.popRd (pl : Planned P ops ms rdM alM plan) {j : Nat} {o : Oper} (hD : DI P ρ orc fi ops ms rdM alM b cs0 μ0 h0 w0 D st (j :: π) μ a w cs) (ho : ops[j]? = some o) (hj : bit D j = true)
    {v : Value} (hv : ∀ d y, o.dst = some d → st.T.get d = some y → VR ρ μ y v) (hlt : ∀ d, o.dst = some d → d < fi.nt) : DI P ρ orc fi ops ms rdM alM b cs0 μ0 h0 w0 D st π μ (a.put o.dst v) w cs := by
  have hnd := List.nodup_cons.1 hD.nodup
  refine ⟨hnd.2, fun i hi => hD.lt i (by simp [hi]), ord_tail hD.ord, down_tail hD.ord hD.down, hD.closed, fun i hi => hD.pend i (by simp [hi]), ?_, hD.ok, by rw [put_size]; exact hD.sz, ?_,
    by rw [put_defers]; exact hD.dr, hD.pm, hD.fir⟩
  · obtain ⟨c, hc, hinj⟩ := hD.early
    have key : ∀ i, bit D i = false → i ∉ π → i ∉ j :: π := by
      intro i h1 h2 h3
      rcases List.mem_cons.1 h3 with h | h
      · subst h; rw [hj] at h1; cases h1
      · exact h2 h
    refine ⟨c, ?_, ?_⟩
    · intro i h1 h2 h3
      obtain ⟨k1, oi, A, k2, k3, k4, k5⟩ := hc i h1 h2 (key i h2 h3)
      refine ⟨k1, oi, A, k2, k3, ?_, k5⟩
      intro d hd hdn
      rw [getD_put_ne]
      · exact k4 d hd hdn
      · intro e
        have := pl.uniq i j oi o d k2 ho hd e
        subst this; rw [hj] at h2; cases h2
    · intro i i' h1 h2; exact hinj i i' ⟨h1.1, h1.2.1, key _ h1.2.1 h1.2.2⟩ ⟨h2.1, h2.2.1, key _ h2.2.1 h2.2.2⟩
  · intro t x hx hne
    by_cases e : o.dst = some t
    · rw [e, getD_put_eq (by rw [hD.sz]; exact hlt t e)]
      exact hv t x e hx
    · rw [getD_put_ne e]
      refine hD.tr t x hx ?_
      intro i oi hoi hdi hexc
      have hij : i ≠ j := by
        intro h; subst h; rw [ho] at hoi; cases hoi; exact e hdi
      refine hne i oi hoi hdi ?_
      rcases hexc with ⟨h1, h2⟩ | ⟨h1, h2, h3⟩
      · exact .inl ⟨h1, (List.mem_cons.1 h2).resolve_left hij⟩
      · exact .inr ⟨h1, h2, fun h => h3 (by simp [h])⟩

theorem Ok.grow {h : AH} (ho : Ok P ρ μ0 h0 w0 μ h w) (ob : Obj) : Ok P ρ μ0 h0 w0 μ h (pushObj w ob) := by
  have hget : ∀ c, c < w.heap.size → (pushObj w ob).heap[c]? = w.heap[c]? := fun c hc => by
    show (w.heap.push ob)[c]? = w.heap[c]?
    rw [Array.getElem?_push, if_neg (Nat.ne_of_lt hc)]
  have hsz : (pushObj w ob).heap.size = w.heap.size + 1 := by show (w.heap.push ob).size = _; rw [Array.size_push]
  refine ⟨⟨?_, ho.hr.inj, ?_, ho.hr.fresh⟩, ho.le, ho.rng, ho.nxt, ⟨ho.frm.os, ho.frm.tape, ho.frm.output, ?_, ?_⟩⟩
  · intro b m hb
    have := ho.hr.lt b m hb
    exact ⟨this.1, by rw [hsz]; omega⟩
  · intro b o m hb hm
    obtain ⟨ob', h1, h2⟩ := ho.hr.obj b o m hb hm
    exact ⟨ob', by rw [hget _ (ho.hr.lt b m hm).2]; exact h1, h2⟩
  · rw [hsz]; have := ho.frm.size; omega
  · intro c hc hm
    rw [hget c (Nat.lt_of_lt_of_le hc ho.frm.size)]
    exact ho.frm.block c hc hm

/-- the machine makes memory before the plan does -/
theorem DI.popAl (pl : Planned P ops ms rdM alM plan) {j : Nat} {o : Oper} {A : AlRec} (hD : DI P ρ orc fi ops ms rdM alM b cs0 μ0 h0 w0 D st (j :: π) μ a w cs) (ho : ops[j]? = some o) (hA : AlOK P o A)
    (hj : bit D j = false) (hal : bit alM j = true) : DI P ρ orc fi ops ms rdM alM b cs0 μ0 h0 w0 D st π μ (a.put o.dst (A.mkv w.heap.size)) (pushObj w A.ob) cs := by
  have hnd := List.nodup_cons.1 hD.nodup
  have hget : ∀ c, c < w.heap.size → (pushObj w A.ob).heap[c]? = w.heap[c]? := fun c hc => by
    show (w.heap.push A.ob)[c]? = w.heap[c]?
    rw [Array.getElem?_push, if_neg (Nat.ne_of_lt hc)]
  refine ⟨hnd.2, fun i hi => hD.lt i (by simp [hi]), ord_tail hD.ord, down_tail hD.ord hD.down, hD.closed, fun i hi => hD.pend i (by simp [hi]), ?_, hD.ok.grow A.ob, by rw [put_size]; exact hD.sz, ?_,
    by rw [put_defers]; exact hD.dr, hD.pm, hD.fir⟩
  · obtain ⟨c, hc, hinj⟩ := hD.early
    have old : ∀ i, i < ops.size → bit D i = false → i ∉ π → i ≠ j → i ∉ j :: π := by
      intro i _ _ h3 h4 h5
      rcases List.mem_cons.1 h5 with h | h
      · exact h4 h
      · exact h3 h
    have clt : ∀ i, i < ops.size → bit D i = false → i ∉ j :: π → c i < w.heap.size := by
      intro i h1 h2 h3
      obtain ⟨_, _, _, _, _, _, k5, _⟩ := hc i h1 h2 h3
      exact (Array.getElem?_eq_some_iff.1 k5).1
    refine ⟨fun i => if i = j then w.heap.size else c i, ?_, ?_⟩
    · intro i h1 h2 h3
      by_cases e : i = j
      · subst e
        refine ⟨hal, o, A, ho, hA, ?_, ?_, ?_, ?_⟩
        · intro d hd hdn
          simp only [if_true]
          rw [hd, getD_put_eq (by rw [hD.sz]; exact hdn)]
        · simp only [if_true]
          show (w.heap.push A.ob)[w.heap.size]? = some A.ob
          rw [Array.getElem?_push]; simp
        · simp only [if_true]; exact hD.ok.frm.size
        · intro b m hb
          simp only [if_true]
          have := (hD.ok.hr.lt b m hb).2
          omega
      · obtain ⟨k1, oi, A', k2, k3, k4, k5, k6⟩ := hc i h1 h2 (old i h1 h2 h3 e)
        simp only [if_neg e]
        refine ⟨k1, oi, A', k2, k3, ?_, by rw [hget _ (Array.getElem?_eq_some_iff.1 k5).1]; exact k5, k6⟩
        intro d hd hdn
        rw [getD_put_ne]
        · exact k4 d hd hdn
        · intro e'; exact e (pl.uniq i j oi o d k2 ho hd e')
    · intro i i' h1 h2 heq
      by_cases e : i = j <;> by_cases e' : i' = j
      · rw [e, e']
      · simp only [if_pos e, if_neg e'] at heq
        have := clt i' h2.1 h2.2.1 (old i' h2.1 h2.2.1 h2.2.2 e')
        omega
      · simp only [if_neg e, if_pos e'] at heq
        have := clt i h1.1 h1.2.1 (old i h1.1 h1.2.1 h1.2.2 e)
        omega
      · simp only [if_neg e, if_neg e'] at heq
        exact hinj i i' ⟨h1.1, h1.2.1, old i h1.1 h1.2.1 h1.2.2 e⟩ ⟨h2.1, h2.2.1, old i' h2.1 h2.2.1 h2.2.2 e'⟩ heq
  · intro t x hx hne
    have hjlt : j < ops.size := hD.lt j (by simp)
    by_cases e : o.dst = some t
    · exact absurd (.inr ⟨hjlt, hj, hnd.1⟩) (hne j o ho e)
    · rw [getD_put_ne e]
      refine hD.tr t x hx ?_
      intro i oi hoi hdi hexc
      have hij : i ≠ j := by
        intro h; subst h; rw [ho] at hoi; cases hoi; exact e hdi
      refine hne i oi hoi hdi ?_
      rcases hexc with ⟨h1, h2⟩ | ⟨h1, h2, h3⟩
      · exact .inl ⟨h1, (List.mem_cons.1 h2).resolve_left hij⟩
      · exact .inr ⟨h1, h2, fun h => h3 (by simp [h])⟩

/-- one operation that the machine makes up for -/
theorem DI.pop (horc : OrcOK P ρ orc) (pl : Planned P ops ms rdM alM plan) {j : Nat} {k : List Item} (hD : DI P ρ orc fi ops ms rdM alM b cs0 μ0 h0 w0 D st (j :: π) μ a w cs)
    (hj : bit D j = true ∨ bit alM j = true) : ∃ a' w', DI P ρ orc fi ops ms rdM alM b cs0 μ0 h0 w0 D st π μ a' w' cs ∧
      Steps P (lone (b.atR a (.inRegion ops (j :: π) :: k)) cs w) (lone (b.atR a' (.inRegion ops π :: k)) cs w') := by
  cases hDj : bit D j with
  | true =>
    obtain ⟨hrd, o, ho, hlt, hp⟩ := hD.pend j (by simp) hDj
    have hrel := hD.rel pl ho (fun i hM => hD.closed j i hDj hM)
    rcases hp with ⟨hw, v, hv, hdst⟩ | ⟨hw, hdst⟩
    · obtain ⟨v', hvr, hrun⟩ := rdOp_sound hD.ok.hr horc o (ev_at hrel) hv
      refine ⟨_, w, hD.popRd pl ho hDj (v := v') (fun d y h1 h2 => by rw [hdst d y h1 h2]; exact hvr) hlt, .one (opStep_next ho (wanted_at hw hrel) ?_ (.inl rfl))⟩
      obtain ⟨o', ho', hrd'⟩ := pl.rd j hrd
      rw [ho] at ho'; cases ho'
      rw [semAt_of_kind]
      · exact hrun
      · intro c hc
        unfold isRd at hrd'
        rw [hc] at hrd'
        simp [kindOf] at hrd'
    · refine ⟨_, w, hD.popRd pl ho hDj (v := undef) (fun d y h1 h2 => by rw [hdst d y h1 h2]; exact tupU) hlt, .one ?_⟩
      have := stepR_op_skip (P := P) (b := b) (a := a) (k := k) (cs := cs) (w := w) (ops := ops) (i := j) (rest := π) (by rw [ho]; exact wanted_at hw hrel)
      rw [ho] at this
      exact this
  | false =>
    have hal : bit alM j = true := by
      rcases hj with h | h
      · rw [hDj] at h; cases h
      · exact h
    obtain ⟨o, A, ho, hA⟩ := al_ok pl hal
    refine ⟨_, _, hD.popAl pl ho hA hDj hal, .one (opStep_next ho ?_ ?_ (.inl rfl))⟩
    · unfold Region.wanted; rw [hA.guard]
    · rw [semAt_of_kind hA.nodef]; exact hA.run _ _

theorem DI.catch (horc : OrcOK P ρ orc) (pl : Planned P ops ms rdM alM plan) {k : List Item} : ∀ (π1 : List Nat) (a : Act) (w : World), DI P ρ orc fi ops ms rdM alM b cs0 μ0 h0 w0 D st (π1 ++ π) μ a w cs →
    (∀ j ∈ π1, bit D j = true ∨ bit alM j = true) → ∃ a' w', DI P ρ orc fi ops ms rdM alM b cs0 μ0 h0 w0 D st π μ a' w' cs ∧
      Steps P (lone (b.atR a (.inRegion ops (π1 ++ π) :: k)) cs w) (lone (b.atR a' (.inRegion ops π :: k)) cs w') := by
  intro π1
  induction π1 with
  | nil => intro a w hD _; exact ⟨a, w, hD, .refl _ _⟩
  | cons j π1 ih =>
    intro a w hD hj
    obtain ⟨a1, w1, hD1, hs1⟩ := DI.pop horc pl (k := k) hD (hj j (by simp))
    obtain ⟨a2, w2, hD2, hs2⟩ := ih a1 w1 hD1 (fun i hi => hj i (by simp [hi]))
    exact ⟨a2, w2, hD2, hs1.trans hs2⟩
end
end Go.Ev
