/- WHAT ONLY READS: one theorem for all of it. -/
import Derived.Test.YtcfljlcdhacpdaaGreatEvOp3
namespace Go.Ev
section
variable {P : Program} {ρ : Nat → Value} {μ : Mu} {h : AH} {w : World} {orc : BinOp → Nat → AVal → Option Bool}

theorem ofValue_agg {v : Value} {l : List AVal} (hv : ofValue v = .agg l) : ∃ cs, v = .agg cs := by
  cases v with
  | agg cs => exact ⟨cs, rfl⟩
  | tuple cs => simp only [ofValue] at hv; split at hv <;> cases hv
  | pointer a => cases a <;> simp [ofValue, ofLeaf] at hv
  | slice a n c => simp only [ofValue, ofLeaf] at hv; split at hv <;> cases hv
  | map r => cases r <;> simp [ofValue, ofLeaf] at hv
  | func f a b => simp only [ofValue, ofLeaf] at hv; split at hv <;> cases hv
  | _ => simp [ofValue, ofLeaf] at hv

theorem build_sound {ev : Ev} {evl : Operand → Value} {t : TypeId} {parts : List (Nat × Operand)} {z l : List AVal} {pl : Nat → Option (Nat × Nat)} {d : TypeDesc}
    (hd : P.underlying t = some d) (hns : ∀ e, d ≠ .slice e) (hz : zeroOf P t = some (.agg z)) (hpl : placesA P t = some pl) (hf : fillAll ev pl z parts = some l)
    (hev : ∀ p ∈ parts, VR ρ μ (ev p.2) (evl p.2)) : ∃ cells : Array Value, VRs ρ μ l cells.toList ∧ P.built t (parts.map fun p => (p.1, evl p.2)) = some cells := by
  obtain ⟨it, zv, hit, hzv, hzz⟩ : ∃ it zv, P.info? t = some it ∧ it.zero = some zv ∧ .agg z = ofValue zv := by
    unfold zeroOf at hz
    split at hz
    · rename_i it hit
      split at hz
      · rename_i zv hzv; exact ⟨it, zv, hit, hzv, (Option.some.inj hz).symm⟩
      · cases hz
    · cases hz
  obtain ⟨cs, rfl⟩ := ofValue_agg hzz.symm
  have hvs : VRs ρ μ z cs.toList := by
    have := ofValue_VR (ρ := ρ) (μ := μ) (.agg cs)
    rw [← hzz] at this
    simp only [VR] at this
    obtain ⟨vs, h1, h2⟩ := this
    cases h1; exact h2
  obtain ⟨cells, h1, h2⟩ := fill_sound pl parts z l hf hev cs hvs
  refine ⟨cells, h1, ?_⟩
  unfold Program.built
  unfold placesA at hpl
  rw [hd] at hpl
  rw [hit, hd]
  cases d with
  | struct fs =>
    simp only at hpl ⊢
    split at hpl
    · rename_i ps hps
      cases hpl
      rw [hzv, hps]
      simpa [Value.cells] using h2
    · cases hpl
  | array n e =>
    simp only at hpl ⊢
    split at hpl
    · rename_i s hs
      cases hpl
      unfold szOf at hs
      split at hs
      · rename_i ie hie
        cases hs
        rw [hzv, hie]
        simpa [Value.cells] using h2
      · cases hs
    · cases hpl
  | slice e => exact absurd rfl (hns e)
  | _ => cases hpl

theorem rdOp_sound (hr : HR P ρ μ h w) (horc : OrcOK P ρ orc) {ev : Ev} {evl : Operand → Value} (o : Oper) (hev : ∀ x ∈ o.op.operands.toList, VR ρ μ (ev x) (evl x)) {r : AVal}
    (he : rdOp P orc h ev o.op = some r) : ∃ v, VR ρ μ r v ∧ (execOp evl o).run P w = .ok (.value v) w := by
  unfold rdOp at he
  split at he
  · rename_i x ho
    cases he
    rw [ho] at hev
    exact ⟨evl x, hev x (by simp [Op.operands]), by simp [execOp, ho]⟩
  · rename_i x ho
    cases he
    rw [ho] at hev
    exact ⟨evl x, hev x (by simp [Op.operands]), by simp [execOp, ho]⟩
  · rename_i c a b ho
    rw [ho] at hev
    have hc := hev c (by simp [Op.operands])
    split at he
    · rename_i hc'
      cases he
      rw [hc'] at hc; simp only [VR] at hc
      exact ⟨evl a, hev a (by simp [Op.operands]), by simp [execOp, ho, hc, asBool]⟩
    · rename_i hc'
      cases he
      rw [hc'] at hc; simp only [VR] at hc
      exact ⟨evl b, hev b (by simp [Op.operands]), by simp [execOp, ho, hc, asBool]⟩
    · cases he
  · rename_i t parts ho
    rw [ho] at hev
    split at he
    · cases he
    · rename_i d z pl hns hd hz hpl
      split at he
      · rename_i l hl
        cases he
        have hns' : ∀ e, d ≠ .slice e := fun e e1 => hns e e1
        obtain ⟨cells, h1, h2⟩ := build_sound (ρ := ρ) (μ := μ) hd hns' hz hpl hl (fun p hp => hev p.2 (by simp only [Op.operands, List.mem_map]; exact ⟨p, hp, rfl⟩))
        refine ⟨.agg cells, by simp only [VR]; exact ⟨_, rfl, h1⟩, ?_⟩
        have := run_build w t (parts.map fun (i, x) => (i, evl x)) cells (by simpa using h2)
        simp [execOp, ho, this]
      · cases he
    · cases he
  · rename_i t a ho
    rw [ho] at hev
    have ha := hev a (by simp [Op.operands])
    split at he
    · rename_i b off hb
      rw [hb] at ha; simp only [VR] at ha; obtain ⟨m, hm, ha⟩ := ha
      obtain ⟨v, h1, h2⟩ := aload_sound hr hm he
      exact ⟨v, h1, by simp [execOp, ho, ha, Instr.loadAt, Instr.sureAddr, h2]⟩
    · cases he
  · rename_i x ho
    rw [ho] at hev
    have hx := hev x (by simp [Op.operands])
    split at he
    · rename_i b off hb
      cases he
      rw [hb] at hx; simp only [VR] at hx; obtain ⟨m, hm, hx⟩ := hx
      exact ⟨_, by simp only [VR]; exact ⟨m, hm, rfl⟩, by simp [execOp, ho, hx]⟩
    · rename_i f first cap hb
      cases he
      rw [hb] at hx
      have hx' := hx
      simp only [VR, FR] at hx; obtain ⟨f', vs, ws, hx, rfl, h3, h4⟩ := hx
      exact ⟨evl x, hx', by simp [execOp, ho, hx]⟩
    · rename_i t v hb
      cases he
      rw [hb] at hx
      have hx' := hx
      simp only [VR] at hx; obtain ⟨v', hx, h3⟩ := hx
      exact ⟨evl x, hx', by simp [execOp, ho, hx]⟩
    · cases he
  · rename_i op t x y yt ho
    rw [ho] at hev
    obtain ⟨v, h1, h2, h3⟩ := binA_sound horc he (hev x (by simp [Op.operands])) (hev y (by simp [Op.operands])) w
    exact ⟨v, h1, by simp [execOp, ho, h2, h3]⟩
  · rename_i op t x ho
    rw [ho] at hev
    obtain ⟨v, h1, h2⟩ := unA_sound (P := P) he (hev x (by simp [Op.operands])) w
    exact ⟨v, h1, by simp [execOp, ho, h2]⟩
  · rename_i s d x ho
    rw [ho] at hev
    obtain ⟨v, h1, h2⟩ := convA_sound hr he (hev x (by simp [Op.operands]))
    exact ⟨v, h1, by simp [execOp, ho, h2]⟩
  · rename_i t x ho
    rw [ho] at hev
    have hx := hev x (by simp [Op.operands])
    split at he
    · cases he
    · rename_i d hni hd
      cases he
      refine ⟨.iface t (evl x), by simp only [VR]; exact ⟨_, rfl, hx⟩, ?_⟩
      have : (Instr.makeInterface t (evl x)).run P w = .ok (.iface t (evl x)) w := by
        simp only [Instr.makeInterface, Sem.run_bind, r_under hd, Result.andThen_ok]
        cases d <;> first | rfl | exact (hni _ hd).elim
      simp [execOp, ho, this]
    · cases he
  · rename_i fn first cap ho
    rw [ho] at hev
    split at he
    · cases he
    · rename_i hny
      cases he
      have hf : FR μ fn fn := by cases fn <;> first | rfl | exact (hny _ rfl).elim
      have h1 : VRs ρ μ (first.toList.map ev) (first.toList.map evl) := VRs.map _ fun y hy => hev y (by simp only [Op.operands, Array.toList_append, List.mem_append]; exact .inl hy)
      have h2 : VRs ρ μ (cap.toList.map ev) (cap.toList.map evl) := VRs.map _ fun y hy => hev y (by simp only [Op.operands, Array.toList_append, List.mem_append]; exact .inr hy)
      refine ⟨.func fn (first.map evl) (cap.map evl), ?_, by simp [execOp, ho, Instr.makeFunc]⟩
      simp only [VR]
      exact ⟨fn, _, _, rfl, hf, by simpa using h1, by simpa using h2⟩
  · rename_i t x lo hi mx ho
    rw [ho] at hev
    have ho' : ∀ (y : Option Operand), (∀ z, y = some z → z ∈ (Op.slice t x lo hi mx).operands.toList) → OVR ρ μ (y.map ev) (y.map evl) := by
      intro y hy
      cases y with
      | none => rfl
      | some z => exact ⟨_, rfl, hev z (hy z rfl)⟩
    obtain ⟨v, h1, h2⟩ := sliceA_sound he (hev x (by simp [Op.operands])) (ho' lo (by intro z e; subst e; simp [Op.operands])) (ho' hi (by intro z e; subst e; simp [Op.operands]))
      (ho' mx (by intro z e; subst e; simp [Op.operands])) w
    exact ⟨v, h1, by simp [execOp, ho, h2]⟩
  · rename_i s x f ho
    rw [ho] at hev
    obtain ⟨v, h1, h2⟩ := fieldAddrA_sound he (hev x (by simp [Op.operands])) w
    exact ⟨v, h1, by simp [execOp, ho, h2]⟩
  · rename_i t x f ho
    rw [ho] at hev
    have hx := hev x (by simp [Op.operands])
    split at he
    · rename_i fs l hu hl
      split at he
      · rename_i fd hfd
        rw [hl] at hx; simp only [VR] at hx; obtain ⟨vs, hx, hvs⟩ := hx
        obtain ⟨v, h1, h2⟩ := part_sound hvs he
        exact ⟨v, h1, by simp [execOp, ho, hx, Instr.field, r_under hu, hfd, asAgg, h2]⟩
      · cases he
    · cases he
  · rename_i t x i ho
    rw [ho] at hev
    obtain ⟨v, h1, h2⟩ := indexAddrA_sound he (hev x (by simp [Op.operands])) (hev i (by simp [Op.operands])) w
    exact ⟨v, h1, by simp [execOp, ho, h2]⟩
  · rename_i t x i ho
    rw [ho] at hev
    obtain ⟨v, h1, h2⟩ := indexA_sound he (hev x (by simp [Op.operands])) (hev i (by simp [Op.operands])) w
    exact ⟨v, h1, by simp [execOp, ho, h2]⟩
  · rename_i t x k ok ho
    rw [ho] at hev
    obtain ⟨v, h1, h2⟩ := lookupA_sound hr he (hev x (by simp [Op.operands])) (hev k (by simp [Op.operands]))
    exact ⟨v, h1, by simp [execOp, ho, h2]⟩
  · rename_i x xt t ok ho
    rw [ho] at hev
    obtain ⟨v, h1, h2⟩ := assertA_sound (xt := xt) he (hev x (by simp [Op.operands])) w
    exact ⟨v, h1, by simp [execOp, ho, h2]⟩
  · rename_i t i ho
    rw [ho] at hev
    have hx := hev t (by simp [Op.operands])
    split at he
    · rename_i l hl
      rw [hl] at hx; simp only [VR] at hx; obtain ⟨vs, hx, hvs⟩ := hx
      obtain ⟨v, h1, h2⟩ := hvs.get he
      simp at h1
      exact ⟨v, h2, by simp [execOp, ho, hx, Instr.extract, h1]⟩
    · cases he
  · rename_i c ho
    rw [ho] at hev
    have hargs : ∀ x ∈ c.args.toList, VR ρ μ (ev x) (evl x) := fun x hx => hev x (by simp only [Op.operands, Call.operands]; simp; right; simpa using hx)
    split at he
    · rename_i hc
      split at he
      · rename_i x hxs
        obtain ⟨v, h1, h2⟩ := lenA_sound (ty := o.type) hr he (hargs x (by rw [hxs]; simp))
        have e : c.args.map evl = #[evl x] := by apply Array.ext'; simp [hxs]
        exact ⟨v, h1, by simp [execOp, ho, resolve, hc, invoke, builtin, e, h2]⟩
      · cases he
    · rename_i hc
      split at he
      · rename_i x l hxs
        have hl : VRs ρ μ (l.map ev) (l.map evl) := VRs.map l fun y hy => hargs y (by rw [hxs]; simp [hy])
        obtain ⟨v, h1, h2⟩ := fold_sound (P := P) (w := w) max2A Builtin.max2 (fun x y z x' y' a b c => max2_sound x y z x' y' a b c) _ _ _ _ _ he (hargs x (by rw [hxs]; simp)) hl
        have e : (c.args.map evl).toList = evl x :: l.map evl := by simp [hxs]
        have e2 : (Builtin.max_ c.argTypes o.type (c.args.map evl)).run P w = .ok v w := by unfold Builtin.max_; rw [e]; exact h2
        exact ⟨v, h1, by simp [execOp, ho, resolve, hc, invoke, builtin, e2]⟩
      · cases he
    · rename_i hc
      split at he
      · rename_i x l hxs
        have hl : VRs ρ μ (l.map ev) (l.map evl) := VRs.map l fun y hy => hargs y (by rw [hxs]; simp [hy])
        obtain ⟨v, h1, h2⟩ := fold_sound (P := P) (w := w) min2A Builtin.min2 (fun x y z x' y' a b c => min2_sound x y z x' y' a b c) _ _ _ _ _ he (hargs x (by rw [hxs]; simp)) hl
        have e : (c.args.map evl).toList = evl x :: l.map evl := by simp [hxs]
        have e2 : (Builtin.min_ c.argTypes o.type (c.args.map evl)).run P w = .ok v w := by unfold Builtin.min_; rw [e]; exact h2
        exact ⟨v, h1, by simp [execOp, ho, resolve, hc, invoke, builtin, e2]⟩
      · cases he
    · cases he
  · cases he
end
end Go.Ev
