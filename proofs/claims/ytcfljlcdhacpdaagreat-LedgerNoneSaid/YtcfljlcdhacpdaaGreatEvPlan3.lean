/- A region that draws its order: its plan's run is the machine's. -/
import Derived.Test.YtcfljlcdhacpdaaGreatEvPlan2
namespace Go.Ev
section
variable {P : Program} {ρ : Nat → Value} {orc : BinOp → Nat → AVal → Option Bool} {funs : FuncId → Option Func} {exts : FuncId → Option Ext} {rec : Task → St → Option Out} {fi : FI} {ops : Array Oper} {ms : Tr Nat} {rdM alM : Nat}
  {plan0 : List PSt} {b : Frame} {cs0 : List Frame} {μ0 : Mu} {h0 : AH} {w0 : World}

theorem dels_get : ∀ (l : List Oper) (T : Tr AVal) (t : Tmp) (x : AVal), (dels T l).get t = some x → T.get t = some x ∧ ∀ o ∈ l, o.dst ≠ some t := by
  intro l
  induction l with
  | nil => intro T t x h; exact ⟨h, fun o ho => nomatch ho⟩
  | cons o l ih =>
    intro T t x h
    simp only [dels] at h
    split at h
    · rename_i d hd
      obtain ⟨h1, h2⟩ := ih _ _ _ h
      obtain ⟨h3, h4⟩ := Tr.get_del h1
      refine ⟨h4, ?_⟩
      intro o' ho'
      rcases List.mem_cons.1 ho' with rfl | ho'
      · rw [hd]; intro e; injection e with e; exact h3 e.symm
      · exact h2 o' ho'
    · rename_i hd
      obtain ⟨h1, h2⟩ := ih _ _ _ h
      refine ⟨h1, ?_⟩
      intro o' ho'
      rcases List.mem_cons.1 ho' with rfl | ho'
      · rw [hd]; simp
      · exact h2 o' ho'

/-- up to an operation, all is done or makes memory -/
theorem DI.split {D : Nat} {st : St} {π : List Nat} {μ : Mu} {a : Act} {w : World} {cs : List Frame} (hD : DI P ρ orc fi ops ms rdM alM b cs0 μ0 h0 w0 D st π μ a w cs) {i : Nat} (hm : i ∈ π)
    (hch : chainOK ms (Nat.lor D (Nat.lor alM (pow2 i))) i ops.size = true) : ∃ π1 π2, π = π1 ++ i :: π2 ∧ ∀ j ∈ π1, bit D j = true ∨ bit alM j = true := by
  obtain ⟨π1, π2, e⟩ := List.append_of_mem hm
  refine ⟨π1, π2, e, ?_⟩
  intro j hj
  have hjlt : j < ops.size := hD.lt j (by rw [e]; simp [hj])
  obtain ⟨u, v, huv⟩ := List.append_of_mem hj
  rcases chainOK_spec _ hch j hjlt with h | h
  · rw [bit_lor, bit_lor, bit_pow2] at h
    simp only [Bool.or_eq_true, decide_eq_true_eq] at h
    rcases h with h | h | h
    · exact .inl h
    · exact .inr h
    · subst h
      exfalso
      have := hD.nodup
      rw [e, huv] at this
      simp [List.nodup_append] at this
  · exfalso
    refine hD.ord u j (v ++ i :: π2) (by rw [e, huv]; simp) i h ?_
    simp

theorem execPlan_sound (hp : ProgOK P funs exts) (hg : Good P ρ rec) (horc : OrcOK P ρ orc) (pl : Planned P ops ms rdM alM plan0) (k : List Item) : ∀ (plan : List PSt) (D mp : Nat) (st : St) (out : Out),
    planOK ms rdM alM ops.size D mp plan = true → execPlan P orc exts rec fi ops plan st = some out →
    ∀ (π : List Nat) (μ : Mu) (a : Act) (w : World) (cs : List Frame), DI P ρ orc fi ops ms rdM alM b cs0 μ0 h0 w0 D st π μ a w cs → (∀ i ∈ π, bit D i = true → bit mp i = true) →
    ∃ μ' a' w' cs' fr, Ok P ρ μ0 h0 w0 μ' out.st.h w' ∧ StR P ρ μ' fi out.st b a' w' cs0 cs' ∧ ArrF ρ μ' out.ex b a' k fr ∧
      Steps P (lone (b.atR a (.inRegion ops π :: k)) cs w) (lone fr cs' w') := by
  intro plan
  induction plan with
  | nil =>
    intro D mp st out hpl he π μ a w cs hD hmp
    cases he
    have hfull : D = Nat.pred (pow2 ops.size) := beq_eq hpl
    have hall : ∀ j ∈ π, bit D j = true ∨ bit alM j = true := by
      intro j hj
      left
      rw [hfull, bit_full]
      simp [hD.lt j hj]
    have hD' : DI P ρ orc fi ops ms rdM alM b cs0 μ0 h0 w0 D st (π ++ []) μ a w cs := by rw [List.append_nil]; exact hD
    obtain ⟨a', w', hD2, hs⟩ := DI.catch horc pl (k := k) π a w hD' hall
    rw [List.append_nil] at hs
    refine ⟨μ, a', w', cs, b.atR a' k, hD2.ok, ⟨hD2.ok.hr, ⟨hD2.sz, ?_⟩, hD2.dr, hD2.pm⟩, rfl, hs.trans (.one stepR_region_end)⟩
    intro t x hx
    refine hD2.tr t x hx ?_
    rintro i o ho _ (⟨_, h⟩ | ⟨h, h', _⟩)
    · cases h
    · rw [hfull, bit_full] at h'
      simp [h] at h'
  | cons s plan ih =>
    intro D mp st out hpl he π μ a w cs hD hmp
    cases s with
    | rd i =>
      simp only [planOK] at hpl
      split at hpl
      case h_2 => cases hpl
      rename_i hc
      simp only [Bool.and_eq_true, Bool.not_eq_true'] at hc
      obtain ⟨⟨hrd, hDi⟩, hsub⟩ := hc
      have hmask : ∀ k, bit (maskAt ms i) k = true → bit D k = true := fun k h => subM_spec hsub h
      simp only [execPlan] at he
      split at he
      case h_1 => cases he
      rename_i o ho
      have hmp' : ∀ j ∈ π, bit (Nat.lor D (pow2 i)) j = true → bit (Nat.lor mp (pow2 i)) j = true := by
        intro j hj h
        rw [bit_D] at h ⊢
        simp only [Bool.or_eq_true, decide_eq_true_eq] at h ⊢
        exact h.imp (hmp j hj) id
      split at he
      · rename_i hw
        split at he
        · rename_i v hv
          split at he
          · rename_i T' hput
            exact ih _ _ _ _ hpl he π μ a w cs (hD.rdStep pl ho hrd hDi hmask hput (.inl ⟨hw, hv⟩)) hmp'
          · cases he
        · cases he
      · rename_i hw
        split at he
        · rename_i T' hput
          exact ih _ _ _ _ hpl he π μ a w cs (hD.rdStep pl ho hrd hDi hmask hput (.inr ⟨hw, rfl⟩)) hmp'
        · cases he
      · cases he
    | mu i js =>
      simp only [planOK] at hpl
      split at hpl
      case h_2 => cases hpl
      rename_i hc
      simp only [Bool.and_eq_true, Bool.not_eq_true'] at hc
      obtain ⟨⟨⟨⟨hal, hDi⟩, hsub⟩, hchain⟩, hjsub⟩ := hc
      have hmask : ∀ k, bit (maskAt ms i) k = true → bit D k = true := fun k h => subM_spec hsub h
      simp only [execPlan] at he
      split at he
      case h_1 => cases he
      rename_i o ho
      have hilt : i < ops.size := (Array.getElem?_eq_some_iff.1 ho).1
      have hmem : i ∈ π := by
        by_cases h : i ∈ π
        · exact h
        · obtain ⟨c, hc, _⟩ := hD.early
          have := (hc i hilt hDi h).1
          rw [hal] at this; cases this
      obtain ⟨π1, π2, e, hj1⟩ := hD.split hmem hchain
      subst e
      obtain ⟨a1, w1, hD1, hs1⟩ := DI.catch horc pl (k := k) π1 a w hD hj1
      have hrel := hD1.rel pl ho hmask
      have hjs : ∀ j ∈ π2, bit D j = true → j ∈ js := by
        intro j hj hDj
        refine maskOf_spec _ _ (subM_spec hjsub ?_)
        rw [bit_minus, hmp j (by simp [hj]) hDj]
        cases hM : bit (maskAt ms i) j with
        | false => rfl
        | true => exact absurd (by simp [hj]) (hD1.ord [] i π2 rfl j hM)
      have hmp' : ∀ j ∈ π2, bit (Nat.lor D (pow2 i)) j = true → bit (Nat.xor mp (Nat.land mp (maskAt ms i))) j = true := by
        intro j hj h
        rw [bit_D] at h
        simp only [Bool.or_eq_true, decide_eq_true_eq] at h
        have hne : i ≠ j := by
          intro e; subst e
          exact (List.nodup_cons.1 hD1.nodup).1 hj
        have hDj := h.resolve_right hne
        rw [bit_minus, hmp j (by simp [hj]) hDj]
        cases hM : bit (maskAt ms i) j with
        | false => rfl
        | true => exact absurd (by simp [hj]) (hD1.ord [] i π2 rfl j hM)
      split at he
      · rename_i hw
        have hw' := wanted_at hw hrel
        have hsto : StO P ρ μ st o b a1 w1 cs0 cs := ⟨hD1.ok.hr, ev_at hrel, hD1.dr, hD1.pm⟩
        split at he
        · rename_i r st2 hop
          obtain ⟨hT, μ2, a2, w2, cs2, v, hok, hv, ha, hds, hpm, hs2⟩ := opX_sound hp hg horc hop μ b a1 w1 cs0 cs ops i π2 k hD1.fir hsto ho hw'
          split at he
          · rename_i T' hput
            split at he
            · rename_i hst
              have hD2 := hD1.muStep pl ho hDi hmask hok hT ha hv hput hds hpm hst hjs
              obtain ⟨μ', a', w', cs', fr, k1, k2, k3, k4⟩ := ih _ _ _ _ hpl he π2 μ2 _ w2 cs2 hD2 hmp'
              exact ⟨μ', a', w', cs', fr, k1, k2, k3, (hs1.trans hs2).trans k4⟩
            · cases he
          · cases he
        · rename_i r st2 hop
          cases he
          obtain ⟨hT, hd, hpm, μ2, w2, v, hok, hv, hs2⟩ := opX_sound hp hg horc hop μ b a1 w1 cs0 cs ops i π2 k hD1.fir hsto ho hw'
          refine ⟨μ2, a1, w2, cs, _, hD1.ok.trans hok, ⟨hok.hr, ⟨hD1.sz, ?_⟩, by rw [show ({ st2 with T := dels st2.T ops.toList } : St).ds = st2.ds from rfl, hd]; exact hD1.dr.mono hok.le,
            by rw [show ({ st2 with T := dels st2.T ops.toList } : St).pm = st2.pm from rfl, hpm]; exact hD1.pm.mono hok.le⟩, ⟨_, v, hv, rfl⟩, hs1.trans hs2⟩
          intro t x hx
          obtain ⟨h1, h2⟩ := dels_get _ _ _ _ hx
          rw [hT] at h1
          refine VR.mono hok.le _ _ (hD1.tr t x h1 ?_)
          intro j oj hoj hdj
          exact absurd hdj (h2 oj (by rw [← Array.getElem?_toList] at hoj; exact List.mem_of_getElem? hoj))
        · cases he
      · rename_i hw
        have hw' := wanted_at hw hrel
        split at he
        · rename_i T' hput
          split at he
          · rename_i hst
            have hD2 := hD1.muStep pl ho hDi hmask (Ok.refl hD1.ok.hr) rfl (a2 := a1) rfl tupU hput hD1.dr hD1.pm hst hjs
            obtain ⟨μ', a', w', cs', fr, k1, k2, k3, k4⟩ := ih _ _ _ _ hpl he π2 μ _ w1 cs hD2 hmp'
            refine ⟨μ', a', w', cs', fr, k1, k2, k3, (hs1.trans (.one ?_)).trans k4⟩
            have := stepR_op_skip (P := P) (b := b) (a := a1) (k := k) (cs := cs) (w := w1) (ops := ops) (i := i) (rest := π2) (by rw [ho]; exact hw')
            rw [ho] at this
            exact this
          · cases he
        · cases he
      · cases he
    | al i js =>
      simp only [planOK] at hpl
      split at hpl
      case h_2 => cases hpl
      rename_i hc
      simp only [Bool.and_eq_true, Bool.not_eq_true'] at hc
      obtain ⟨⟨⟨⟨hal, hDi⟩, hsub⟩, hchain⟩, hjsub⟩ := hc
      have hmask : ∀ k, bit (maskAt ms i) k = true → bit D k = true := fun k h => subM_spec hsub h
      simp only [execPlan] at he
      split at he
      case h_1 => cases he
      rename_i o ho
      have hilt : i < ops.size := (Array.getElem?_eq_some_iff.1 ho).1
      have hready : ∃ π2 a1 w1, DI P ρ orc fi ops ms rdM alM b cs0 μ0 h0 w0 D st π2 μ a1 w1 cs ∧ i ∉ π2 ∧ (∀ j ∈ π2, j ∈ π) ∧
          Steps P (lone (b.atR a (.inRegion ops π :: k)) cs w) (lone (b.atR a1 (.inRegion ops π2 :: k)) cs w1) := by
        by_cases hmem : i ∈ π
        · obtain ⟨π1, π2, e, hj1⟩ := hD.split hmem hchain
          subst e
          obtain ⟨a1, w1, hD1, hs1⟩ := DI.catch horc pl (k := k) π1 a w hD hj1
          obtain ⟨a2, w2, hD2, hs2⟩ := DI.pop horc pl (k := k) hD1 (.inr hal)
          exact ⟨π2, a2, w2, hD2, (List.nodup_cons.1 hD1.nodup).1, fun j hj => by simp [hj], hs1.trans hs2⟩
        · exact ⟨π, a, w, hD, hmem, fun j hj => hj, .refl _ _⟩
      obtain ⟨π2, a1, w1, hD1, hni, hsubset, hs1⟩ := hready
      have hmin : ∀ j ∈ π2, bit D j = true → bit (Nat.xor mp (Nat.land mp (maskAt ms i))) j = true := by
        intro j hj hDj
        rw [bit_minus, hmp j (hsubset j hj) hDj]
        cases hM : bit (maskAt ms i) j with
        | false => rfl
        | true => exact absurd hj (hD1.down i hilt hni j hM)
      split at he
      · rename_i r h' hw
        split at he
        · rename_i T' hput
          split at he
          · rename_i hst
            obtain ⟨μ2, hD2⟩ := hD1.alStep pl ho hni hDi hmask hw hput hst (fun j hj hDj => maskOf_spec _ _ (subM_spec hjsub (hmin j hj hDj)))
            obtain ⟨μ', a', w', cs', fr, k1, k2, k3, k4⟩ := ih _ _ _ _ hpl he π2 μ2 _ w1 cs hD2 (by
              intro j hj h
              rw [bit_D] at h
              simp only [Bool.or_eq_true, decide_eq_true_eq] at h
              rcases h with h | h
              · exact hmin j hj h
              · subst h; exact absurd hj hni)
            exact ⟨μ', a', w', cs', fr, k1, k2, k3, hs1.trans k4⟩
          · cases he
        · cases he
      · cases he

theorem regionD_sound (hp : ProgOK P funs exts) (hg : Good P ρ rec) (horc : OrcOK P ρ orc) {id : Nat} {st : St} {plan : List PSt} {out : Out} (hpl : drawn P ops = some plan)
    (he : execPlan P orc exts rec fi ops plan st = some out) : RunOK P ρ (fun k => .code (.region id ops true) :: k) fi st out := by
  obtain ⟨ms, rdM, alM, pl⟩ := drawn_spec hpl
  intro μ b a w k cs0 cs hfi hst
  have hL := lin_all pl.edge (w.tape w.drawn (.order b.fn id))
  have hord := fun {j i : Nat} (h : Path ops j i) => hL.path pl.edge h
  have hsched : Region.schedule (P.follows .mixedOrders) ops (w.tape w.drawn (.order b.fn id)) = Region.linearise .any ops (w.tape w.drawn (.order b.fn id)) := by
    simp only [Region.schedule, hp.mixed, Bool.true_or, if_true]
  have hrd : Ok P ρ μ st.h w μ st.h { w with drawn := w.drawn + 1 } :=
    ⟨⟨hst.hr.lt, hst.hr.inj, hst.hr.obj, hst.hr.fresh⟩, .refl _, fun _ _ e => .inl e, Nat.le_refl _, ⟨rfl, rfl, rfl, Nat.le_refl _, fun _ _ _ => rfl⟩⟩
  have hmem : ∀ j, j ∈ Region.linearise .any ops (w.tape w.drawn (.order b.fn id)) ↔ j < ops.size := by
    intro j
    rw [hL.mem]
    constructor
    · exact fun h => h.1
    · intro h; exact ⟨h, by simp [h]⟩
  have hDI : DI P ρ orc fi ops ms rdM alM b cs0 μ st.h w 0 st (Region.linearise .any ops (w.tape w.drawn (.order b.fn id))) μ a { w with drawn := w.drawn + 1 } cs := by
    refine ⟨hL.nodup, fun j hj => (hmem j).1 hj, fun π1 j π2 e i hM => hord (pl.mask j i hM) π1 π2 e, ?_, ?_, ?_, ⟨fun _ => 0, ?_, ?_⟩, hrd, hst.tr.1, fun t x hx _ => hst.tr.2 t x hx, hst.dr, hst.pm, hfi⟩
    · intro i hi hni; exact absurd ((hmem i).2 hi) hni
    · intro j i h; rw [bit_zero] at h; cases h
    · intro i _ h; rw [bit_zero] at h; cases h
    · intro i hi _ hni; exact absurd ((hmem i).2 hi) hni
    · intro i j h1; exact absurd ((hmem i).2 h1.1) h1.2.2
  obtain ⟨μ', a', w', cs', fr, k1, k2, k3, k4⟩ := execPlan_sound hp hg horc pl k plan 0 0 st out pl.plan he _ μ a _ cs hDI (fun i _ h => by rw [bit_zero] at h; cases h)
  refine ⟨μ', a', w', cs', fr, k1, k2, k3, .head stepR_region_draw ?_⟩
  rw [hsched]
  exact k4
end
end Go.Ev
