/- A region that draws its order, by a plan. -/
import Derived.Test.YtcfljlcdhacpdaaGreatEvPlan1
namespace Go.Ev
section
variable {P : Program} {ρ : Nat → Value} {orc : BinOp → Nat → AVal → Option Bool} {funs : FuncId → Option Func} {exts : FuncId → Option Ext} {rec : Task → St → Option Out} {fi : FI} {ops : Array Oper} {ms : Tr Nat} {rdM alM : Nat}
  {plan : List PSt} {b : Frame} {cs0 : List Frame} {μ0 : Mu} {h0 : AH} {w0 : World} {D : Nat} {st : St} {π : List Nat} {μ : Mu} {a : Act} {w : World} {cs : List Frame}

theorem bit_D (D i j : Nat) : bit (Nat.lor D (pow2 i)) j = (bit D j || decide (i = j)) := by rw [bit_lor, bit_pow2]

theorem still_spec {i : Nat} (h : still P orc ops st i = true) (hlt : ∀ o d, ops[i]? = some o → o.dst = some d → d < fi.nt) : Pend P orc fi.nt ops st i := by
  unfold still at h
  split at h
  · cases h
  · rename_i o ho
    split at h
    · rename_i hw
      split at h
      · rename_i v hv
        refine ⟨o, ho, fun d hd => hlt o d ho hd, .inl ⟨hw, v, hv, ?_⟩⟩
        intro d y hd hy
        rw [hd] at h
        simp only [hy] at h
        exact (same_eq _ _ h).symm
      · cases h
    · rename_i hw
      refine ⟨o, ho, fun d hd => hlt o d ho hd, .inr ⟨hw, ?_⟩⟩
      intro d y hd hy
      rw [hd] at h
      simp only [hy] at h
      exact (same_eq _ _ h).symm
    · cases h

theorem stills_spec : ∀ {js : List Nat}, stills P orc ops st js = true → ∀ j ∈ js, still P orc ops st j = true := by
  intro js
  induction js with
  | nil => intro _ j h; cases h
  | cons x js ih =>
    intro h j hj
    simp only [stills] at h
    split at h
    · rename_i hx
      rcases List.mem_cons.1 hj with rfl | hj
      · exact hx
      · exact ih h j hj
    · cases h

theorem putT_get {T T' : Tr AVal} {d : Option Tmp} {v : AVal} (h : putT fi T d v = some T') {t : Tmp} {x : AVal} (hx : T'.get t = some x) : (d = some t ∧ t < fi.nt ∧ x = v) ∨ (d ≠ some t ∧ T.get t = some x) := by
  unfold putT at h
  split at h
  · cases h; exact .inr ⟨by simp, hx⟩
  · rename_i d
    split at h
    · rename_i hlt
      cases h
      rcases Tr.get_put hx with ⟨rfl, rfl⟩ | ⟨hne, hx'⟩
      · exact .inl ⟨rfl, blt_lt hlt, rfl⟩
      · exact .inr ⟨fun e => hne (by injection e with e; exact e.symm), hx'⟩
    · cases h

theorem putT_ne {T T' : Tr AVal} {d : Option Tmp} {v : AVal} (h : putT fi T d v = some T') {t : Tmp} (hne : d ≠ some t) : T'.get t = T.get t := by
  unfold putT at h
  split at h
  · cases h; rfl
  · rename_i d
    split at h
    · cases h; exact Tr.get_put_ne _ _ (fun e => hne (by rw [e]))
    · cases h

theorem putT_lt {T T' : Tr AVal} {d : Option Tmp} {v : AVal} (h : putT fi T d v = some T') {t : Tmp} (hd : d = some t) : t < fi.nt := by
  subst hd
  simp only [putT] at h
  split at h
  · rename_i hlt; exact blt_lt hlt
  · cases h

/-- the plan reads: the machine stays -/
theorem DI.rdStep (pl : Planned P ops ms rdM alM plan) (hD : DI P ρ orc fi ops ms rdM alM b cs0 μ0 h0 w0 D st π μ a w cs) {i : Nat} {o : Oper} (ho : ops[i]? = some o) (hrd : bit rdM i = true)
    (hDi : bit D i = false) (hmask : ∀ k, bit (maskAt ms i) k = true → bit D k = true) {v : AVal} {T' : Tr AVal} (hput : putT fi st.T o.dst v = some T')
    (hv : (wantedA ops st.T o = some true ∧ rdOp P orc st.h (ev st.T) o.op = some v) ∨ (wantedA ops st.T o = some false ∧ v = .tup [])) :
    DI P ρ orc fi ops ms rdM alM b cs0 μ0 h0 w0 (Nat.lor D (pow2 i)) { st with T := T' } π μ a w cs := by
  have hilt : i < ops.size := (Array.getElem?_eq_some_iff.1 ho).1
  have hmem : i ∈ π := by
    by_cases h : i ∈ π
    · exact h
    · obtain ⟨c, hc, _⟩ := hD.early
      have := (hc i hilt hDi h).1
      rw [rd_not_al pl hrd] at this; cases this
  have hself : bit (maskAt ms i) i = false := by
    cases hq : bit (maskAt ms i) i with
    | false => rfl
    | true =>
      obtain ⟨u, v, e⟩ := List.append_of_mem hmem
      exact absurd (by simp) (hD.ord u i v e i hq)
  have hreads : ∀ j oj, ops[j]? = some oj → (j = i ∨ bit D j = true) → ∀ t ∈ reads ops oj, st.T.get t = T'.get t := by
    intro j oj hoj hj t ht
    refine (putT_ne hput ?_).symm
    intro e
    rcases pl.reads j oj i o t hoj ho e ht with h | ⟨h, h', _⟩
    · rcases hj with rfl | hj
      · rw [hself] at h; cases h
      · rw [hD.closed j i hj h] at hDi; cases hDi
    · rw [hrd] at h'; cases h'
  refine ⟨hD.nodup, hD.lt, hD.ord, hD.down, ?_, ?_, ?_, hD.ok, hD.sz, ?_, hD.dr, hD.pm, hD.fir⟩
  · intro j k h hM
    rw [bit_D] at h ⊢
    simp only [Bool.or_eq_true, decide_eq_true_eq] at h ⊢
    rcases h with h | rfl
    · exact .inl (hD.closed j k h hM)
    · exact .inl (hmask k hM)
  · intro j hj h
    rw [bit_D] at h
    simp only [Bool.or_eq_true, decide_eq_true_eq] at h
    by_cases e : i = j
    · subst e
      refine ⟨hrd, o, ho, fun d hd => putT_lt hput hd, ?_⟩
      have hr := hreads i o ho (.inl rfl)
      rcases hv with ⟨h1, h2⟩ | ⟨h1, h2⟩
      · refine .inl ⟨by rw [← wantedA_congr hr]; exact h1, v, by rw [← rdOp_congr (ev_congr hr)]; exact h2, ?_⟩
        intro d y hd hy
        rcases putT_get hput hy with ⟨_, _, h⟩ | ⟨h, _⟩
        · exact h
        · exact absurd hd h
      · refine .inr ⟨by rw [← wantedA_congr hr]; exact h1, ?_⟩
        intro d y hd hy
        rcases putT_get hput hy with ⟨_, _, h⟩ | ⟨h, _⟩
        · rw [h, h2]
        · exact absurd hd h
    · have hDj : bit D j = true := h.resolve_right e
      obtain ⟨h1, oj, h2, h3, h4⟩ := hD.pend j hj hDj
      have hr := hreads j oj h2 (.inr hDj)
      have hne : ∀ d, oj.dst = some d → T'.get d = st.T.get d := by
        intro d hd
        refine putT_ne hput ?_
        intro e'
        exact e (pl.uniq i j o oj d ho h2 e' hd)
      refine ⟨h1, oj, h2, h3, ?_⟩
      rcases h4 with ⟨k1, v', k2, k3⟩ | ⟨k1, k2⟩
      · exact .inl ⟨by rw [← wantedA_congr hr]; exact k1, v', by rw [← rdOp_congr (ev_congr hr)]; exact k2, fun d y hd hy => k3 d y hd (by rw [← hne d hd]; exact hy)⟩
      · exact .inr ⟨by rw [← wantedA_congr hr]; exact k1, fun d y hd hy => k2 d y hd (by rw [← hne d hd]; exact hy)⟩
  · obtain ⟨c, hc, hinj⟩ := hD.early
    have old : ∀ j, bit (Nat.lor D (pow2 i)) j = false → bit D j = false := by
      intro j h
      rw [bit_D] at h
      simp only [Bool.or_eq_false_iff] at h
      exact h.1
    exact ⟨c, fun j h1 h2 h3 => hc j h1 (old j h2) h3, fun j j' h1 h2 => hinj j j' ⟨h1.1, old j h1.2.1, h1.2.2⟩ ⟨h2.1, old j' h2.2.1, h2.2.2⟩⟩
  · intro t x hx hne
    rcases putT_get hput hx with ⟨h, _, _⟩ | ⟨h, hx'⟩
    · exact absurd (.inl ⟨by rw [bit_D]; simp, hmem⟩) (hne i o ho h)
    · refine hD.tr t x hx' ?_
      intro j oj hoj hdj hexc
      have hij : i ≠ j := by
        intro e; subst e; rw [ho] at hoj; cases hoj; exact h hdj
      refine hne j oj hoj hdj ?_
      rcases hexc with ⟨h1, h2⟩ | ⟨h1, h2, h3⟩
      · exact .inl ⟨by rw [bit_D, h1]; rfl, h2⟩
      · exact .inr ⟨h1, by rw [bit_D, h2]; simp [hij], h3⟩

/-- both do it -/
theorem DI.muStep (pl : Planned P ops ms rdM alM plan) {i : Nat} (hD : DI P ρ orc fi ops ms rdM alM b cs0 μ0 h0 w0 D st (i :: π) μ a w cs) {o : Oper} (ho : ops[i]? = some o)
    (hDi : bit D i = false) (hmask : ∀ k, bit (maskAt ms i) k = true → bit D k = true) {μ2 : Mu} {a2 : Act} {w2 : World} {cs2 : List Frame} {st2 : St} {r : AVal} {v : Value} {T' : Tr AVal}
    (hok : Ok P ρ μ st.h w μ2 st2.h w2) (hT : st2.T = st.T) (ha : a2.tmps = a.tmps) (hv : VR ρ μ2 r v) (hput : putT fi st2.T o.dst r = some T') (hds : DRs ρ μ2 st2.ds a2.defers)
    (hpm : PMR ρ μ2 st2.pm b.kind cs0 cs2) {js : List Nat} (hst : stills P orc ops { st2 with T := T' } js = true) (hjs : ∀ j ∈ π, bit D j = true → j ∈ js) :
    DI P ρ orc fi ops ms rdM alM b cs0 μ0 h0 w0 (Nat.lor D (pow2 i)) { st2 with T := T' } π μ2 (a2.put o.dst v) w2 cs2 := by
  have hnd := List.nodup_cons.1 hD.nodup
  rw [hT] at hput
  have hpart : ∀ j, bit (Nat.lor D (pow2 i)) j = true → j ∈ π → bit D j = true := by
    intro j h hj
    rw [bit_D] at h
    simp only [Bool.or_eq_true, decide_eq_true_eq] at h
    rcases h with h | rfl
    · exact h
    · exact absurd hj hnd.1
  have old : ∀ j, bit (Nat.lor D (pow2 i)) j = false → bit D j = false ∧ i ≠ j := by
    intro j h
    rw [bit_D] at h
    simp only [Bool.or_eq_false_iff, decide_eq_false_iff_not] at h
    exact h
  have hnot : ∀ j, i ≠ j → j ∉ π → j ∉ i :: π := by
    intro j h1 h2 h3
    rcases List.mem_cons.1 h3 with h | h
    · exact h1 h.symm
    · exact h2 h
  refine ⟨hnd.2, fun i hi => hD.lt i (by simp [hi]), ord_tail hD.ord, down_tail hD.ord hD.down, ?_, ?_, ?_, hD.ok.trans hok, by rw [put_size, ha]; exact hD.sz, ?_, by rw [put_defers]; exact hds, hpm,
    hD.fir.mono hok.le⟩
  · intro j k h hM
    rw [bit_D] at h ⊢
    simp only [Bool.or_eq_true, decide_eq_true_eq] at h ⊢
    rcases h with h | rfl
    · exact .inl (hD.closed j k h hM)
    · exact .inl (hmask k hM)
  · intro j hj h
    have hDj := hpart j h hj
    obtain ⟨h1, oj, h2, h3, _⟩ := hD.pend j (by simp [hj]) hDj
    refine ⟨h1, still_spec (stills_spec hst j (hjs j hj hDj)) ?_⟩
    intro o' d ho' hd
    rw [h2] at ho'; cases ho'
    exact h3 d hd
  · obtain ⟨c, hc, hinj⟩ := hD.early
    refine ⟨c, ?_, ?_⟩
    · intro j h1 h2 h3
      obtain ⟨h4, h5⟩ := old j h2
      obtain ⟨k1, oj, A, k2, k3, k4, k5, k6, k7⟩ := hc j h1 h4 (hnot j h5 h3)
      refine ⟨k1, oj, A, k2, k3, ?_, ?_, k6, ?_⟩
      · intro d hd hdn
        rw [getD_put_ne, ha]
        · exact k4 d hd hdn
        · intro e; exact h5 (pl.uniq i j o oj d ho k2 e hd)
      · rw [hok.frm.block _ (Array.getElem?_eq_some_iff.1 k5).1 k7]; exact k5
      · intro b m hb
        have hlt := (Array.getElem?_eq_some_iff.1 k5).1
        rcases hok.rng b m hb with h | ⟨_, _, h | ⟨b0, m0, h, h'⟩⟩
        · exact k7 b m h
        · omega
        · rw [← h']; exact k7 b0 m0 h
    · intro j j' h1 h2
      exact hinj j j' ⟨h1.1, (old j h1.2.1).1, hnot j (old j h1.2.1).2 h1.2.2⟩ ⟨h2.1, (old j' h2.2.1).1, hnot j' (old j' h2.2.1).2 h2.2.2⟩
  · intro t x hx hne
    rcases putT_get hput hx with ⟨h, hlt, rfl⟩ | ⟨h, hx'⟩
    · rw [h, getD_put_eq (by rw [ha, hD.sz]; exact hlt)]
      exact hv
    · rw [getD_put_ne h, ha]
      refine VR.mono hok.le _ _ (hD.tr t x hx' ?_)
      intro j oj hoj hdj hexc
      have hij : i ≠ j := by
        intro e; subst e; rw [ho] at hoj; cases hoj; exact h hdj
      refine hne j oj hoj hdj ?_
      rcases hexc with ⟨h1, h2⟩ | ⟨h1, h2, h3⟩
      · exact .inl ⟨by rw [bit_D, h1]; rfl, (List.mem_cons.1 h2).resolve_left (fun e => hij e.symm)⟩
      · exact .inr ⟨h1, by rw [bit_D, h2]; simp [hij], fun h => h3 (by simp [h])⟩

/-- a block that the machine has made becomes the plan's -/
theorem Ok.adopt {h : AH} (ho : Ok P ρ μ0 h0 w0 μ h w) {c : Nat} {A : AlRec} {o : Oper} (hA : AlOK P o A) (hc : w.heap[c]? = some A.ob) (hle : w0.heap.size ≤ c) (hun : ∀ b m, μ b = some m → m.1 ≠ c) :
    Ok P ρ μ0 h0 w0 (fun x => if x = h.next then some (c, A.sz, A.es) else μ x) (h.new A.aobj) w ∧ Mu.le μ (fun x => if x = h.next then some (c, A.sz, A.es) else μ x) := by
  have hclt := (Array.getElem?_eq_some_iff.1 hc).1
  have hnone : μ h.next = none := by
    cases e : μ h.next with
    | none => rfl
    | some m => exact absurd (ho.hr.lt _ _ e).1 (Nat.lt_irrefl _)
  have hle2 : Mu.le μ (fun x => if x = h.next then some (c, A.sz, A.es) else μ x) := by
    intro x m hx
    simp only
    rw [if_neg]; · exact hx
    intro e; rw [e, hnone] at hx; cases hx
  have hcase : ∀ x m, (if x = h.next then some (c, A.sz, A.es) else μ x) = some m → (x = h.next ∧ m = (c, A.sz, A.es)) ∨ (x ≠ h.next ∧ μ x = some m) := by
    intro x m hx
    split at hx
    · rename_i e; exact .inl ⟨e, by injection hx with e; exact e.symm⟩
    · rename_i e; exact .inr ⟨e, hx⟩
  have hget : ∀ k x, (h.new A.aobj).m.get k = some x → (k = h.next ∧ x = A.aobj) ∨ (k ≠ h.next ∧ h.m.get k = some x) := fun k x hx => (Tr.get_put hx).imp (fun e => ⟨e.1, e.2.symm⟩) id
  refine ⟨⟨⟨?_, ?_, ?_, ?_⟩, ho.le.trans hle2, ?_, ?_, ho.frm⟩, hle2⟩
  · intro x m hx
    rcases hcase x m hx with ⟨rfl, rfl⟩ | ⟨_, hx'⟩
    · exact ⟨by simp [AH.new], hclt⟩
    · have := ho.hr.lt x m hx'; exact ⟨by simp [AH.new]; omega, this.2⟩
  · intro k k' mk mk' x x' hk hk' hx hx' e
    rcases hcase k mk hk with ⟨rfl, rfl⟩ | ⟨hne, hk1⟩ <;> rcases hcase k' mk' hk' with ⟨rfl, rfl⟩ | ⟨hne', hk1'⟩
    · rfl
    · exact absurd e.symm (hun _ _ hk1')
    · exact absurd e (hun _ _ hk1)
    · rcases hget k x hx with ⟨e1, _⟩ | ⟨_, hx1⟩
      · exact absurd e1 hne
      rcases hget k' x' hx' with ⟨e1, _⟩ | ⟨_, hx1'⟩
      · exact absurd e1 hne'
      exact ho.hr.inj k k' mk mk' x x' hk1 hk1' hx1 hx1' e
  · intro k x mk hx hk
    rcases hget k x hx with ⟨rfl, rfl⟩ | ⟨hne, hx'⟩
    · rcases hcase _ mk hk with ⟨_, rfl⟩ | ⟨hne, _⟩
      · exact ⟨A.ob, hc, hA.obj _ _ _⟩
      · exact absurd rfl hne
    · rcases hcase _ mk hk with ⟨e, _⟩ | ⟨_, hk'⟩
      · exact absurd e hne
      · obtain ⟨ob', h1, h2⟩ := ho.hr.obj k x mk hx' hk'
        exact ⟨ob', h1, h2.mono hle2⟩
  · intro k x hx
    rcases hget k x hx with ⟨rfl, rfl⟩ | ⟨_, hx'⟩
    · simp [AH.new]
    · have := ho.hr.fresh k x hx'; simp [AH.new]; omega
  · intro x m hx
    rcases hcase x m hx with ⟨rfl, rfl⟩ | ⟨_, hx'⟩
    · refine .inr ⟨?_, ho.nxt, .inl hle⟩
      cases e : μ0 h.next with
      | none => rfl
      | some m => have := ho.le _ _ e; rw [hnone] at this; cases this
    · exact ho.rng x m hx'
  · have := ho.nxt; simp [AH.new]; omega

/-- the plan makes memory that the machine has made before -/
theorem DI.alStep (pl : Planned P ops ms rdM alM plan) {i : Nat} (hD : DI P ρ orc fi ops ms rdM alM b cs0 μ0 h0 w0 D st π μ a w cs) {o : Oper} (ho : ops[i]? = some o) (hni : i ∉ π)
    (hDi : bit D i = false) (hmask : ∀ k, bit (maskAt ms i) k = true → bit D k = true) {r : AVal} {h' : AH} {T' : Tr AVal} (hw : wrOp P st.h (ev st.T) o = some (r, h'))
    (hput : putT fi st.T o.dst r = some T') {js : List Nat} (hst : stills P orc ops { st with T := T', h := h' } js = true) (hjs : ∀ j ∈ π, bit D j = true → j ∈ js) :
    ∃ μ', DI P ρ orc fi ops ms rdM alM b cs0 μ0 h0 w0 (Nat.lor D (pow2 i)) { st with T := T', h := h' } π μ' a w cs := by
  have hilt : i < ops.size := (Array.getElem?_eq_some_iff.1 ho).1
  obtain ⟨c, hc, hinj⟩ := hD.early
  obtain ⟨hal, o', A, ho', hA, htmp, hob, hge, hun⟩ := hc i hilt hDi hni
  rw [ho] at ho'; cases ho'
  rw [hA.wr] at hw
  injection hw with hw
  injection hw with hw1 hw2
  subst hw1; subst hw2
  obtain ⟨hok, hle⟩ := hD.ok.adopt hA hob hge hun
  have old : ∀ j, bit (Nat.lor D (pow2 i)) j = false → bit D j = false ∧ i ≠ j := by
    intro j h
    rw [bit_D] at h
    simp only [Bool.or_eq_false_iff, decide_eq_false_iff_not] at h
    exact h
  refine ⟨_, hD.nodup, hD.lt, hD.ord, hD.down, ?_, ?_, ?_, hok, hD.sz, ?_, hD.dr.mono hle, hD.pm.mono hle, hD.fir.mono hle⟩
  · intro j k h hM
    rw [bit_D] at h ⊢
    simp only [Bool.or_eq_true, decide_eq_true_eq] at h ⊢
    rcases h with h | rfl
    · exact .inl (hD.closed j k h hM)
    · exact .inl (hmask k hM)
  · intro j hj h
    rw [bit_D] at h
    simp only [Bool.or_eq_true, decide_eq_true_eq] at h
    have hDj : bit D j = true := by
      rcases h with h | rfl
      · exact h
      · exact absurd hj hni
    obtain ⟨h1, oj, h2, h3, _⟩ := hD.pend j hj hDj
    refine ⟨h1, still_spec (stills_spec hst j (hjs j hj hDj)) ?_⟩
    intro o' d ho' hd
    rw [h2] at ho'; cases ho'
    exact h3 d hd
  · refine ⟨c, ?_, ?_⟩
    · intro j h1 h2 h3
      obtain ⟨h4, h5⟩ := old j h2
      obtain ⟨k1, oj, A', k2, k3, k4, k5, k6, k7⟩ := hc j h1 h4 h3
      refine ⟨k1, oj, A', k2, k3, k4, k5, k6, ?_⟩
      intro x m hx
      simp only at hx
      split at hx
      · cases hx
        exact fun e => h5 (hinj i j ⟨hilt, hDi, hni⟩ ⟨h1, h4, h3⟩ e)
      · exact k7 x m hx
    · intro j j' h1 h2
      exact hinj j j' ⟨h1.1, (old j h1.2.1).1, h1.2.2⟩ ⟨h2.1, (old j' h2.2.1).1, h2.2.2⟩
  · intro t x hx hne
    rcases putT_get hput hx with ⟨h, hlt, rfl⟩ | ⟨h, hx'⟩
    · rw [htmp t h hlt]
      exact hA.val _ _ _ _ (by simp)
    · refine VR.mono hle _ _ (hD.tr t x hx' ?_)
      intro j oj hoj hdj hexc
      have hij : i ≠ j := by
        intro e; subst e; rw [ho] at hoj; cases hoj; exact h hdj
      refine hne j oj hoj hdj ?_
      rcases hexc with ⟨h1, h2⟩ | ⟨h1, h2, h3⟩
      · exact .inl ⟨by rw [bit_D, h1]; rfl, h2⟩
      · exact .inr ⟨h1, by rw [bit_D, h2]; simp [hij], h3⟩
end
end Go.Ev
