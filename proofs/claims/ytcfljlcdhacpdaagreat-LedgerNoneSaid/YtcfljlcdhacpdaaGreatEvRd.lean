/- What only reads: the evaluator's value is the model's. -/
import Derived.Test.YtcfljlcdhacpdaaGreatEvRel
import Derived.Laws.StructEq
import Derived.Laws.Cells
namespace Go.Ev

/-- what the oracle says of values that came in is so -/
def OrcOK (P : Program) (ρ : Nat → Value) (orc : BinOp → Nat → AVal → Option Bool) : Prop :=
  ∀ op i c r (μ : Mu) c', orc op i c = some r → VR ρ μ c c' → ∀ t x y w,
    (eqGuard op t x y (ρ i) c').run P w = .ok () w ∧ (binOp op t (ρ i) c').run P w = .ok (.bool r) w

theorem orcOK_no (P : Program) (ρ : Nat → Value) : OrcOK P ρ noOrc := fun _ _ _ _ _ _ h => nomatch h

section
variable {P : Program} {ρ : Nat → Value} {μ : Mu} {h : AH} {w : World}

theorem addr_add (b o i : Nat) : (⟨b, o, none⟩ : Addr).add i = ⟨b, o + i, none⟩ := by
  unfold Addr.add; split
  · simp_all
  · rfl

theorem r_info {t : TypeId} {i : TypeInfo} (hi : P.info? t = some i) (w : World) : (typeInfo t).run P w = .ok i w := by simp [typeInfo, hi]
theorem r_size {t : TypeId} {s : Nat} (hs : szOf P t = some s) (w : World) : (sizeOf t).run P w = .ok s w := by
  unfold szOf at hs
  split at hs
  · rename_i i hi; cases hs; simp [sizeOf, r_info hi]
  · cases hs
theorem r_zero {t : TypeId} {z : AVal} (hz : zeroOf P t = some z) : ∃ v, z = ofValue v ∧ ∀ w, (zeroValue t).run P w = .ok v w := by
  unfold zeroOf at hz
  split at hz
  · rename_i i hi
    split at hz
    · rename_i v hv; cases hz; exact ⟨v, rfl, fun w => by simp [zeroValue, r_info hi, hv]⟩
    · cases hz
  · cases hz
theorem r_under {t : TypeId} {d : TypeDesc} (hd : P.underlying t = some d) (w : World) : (underlying t).run P w = .ok d w := run_underlying hd w
theorem r_agg {t : TypeId} {b : Bool} (hb : aggT P t = some b) (w : World) : (isAgg t).run P w = .ok b w := by
  unfold aggT at hb
  split at hb
  · rename_i fs hu; cases hb; simp [isAgg, r_under hu]
  · rename_i fs hu; cases hb; simp [isAgg, r_under hu]
  · rename_i d h1 h2 hu
    cases hb
    simp only [isAgg, Sem.run_bind, r_under hu, Result.andThen_ok]
    cases d <;> first | rfl | (exact absurd hu (h1 _)) | (exact absurd hu (h2 _ _))
  · cases hb

theorem ofLeaf_VR (v : Value) : VR ρ μ (ofLeaf v) v := by
  cases v with
  | pointer a => cases a <;> simp [ofLeaf, VR]
  | slice a n c =>
    unfold ofLeaf
    simp only
    split <;> simp [VR]
  | map r => cases r <;> simp [ofLeaf, VR]
  | func f a b =>
    unfold ofLeaf
    simp only
    split
    · rename_i g h1 h2
      simp only [VR]
      exact ⟨_, _, _, rfl, by simp [FR], by rw [h1]; exact .nil, by rw [h2]; exact .nil⟩
    · simp [VR]
  | _ => simp [ofLeaf, VR]

theorem ofValue_VR (v : Value) : VR ρ μ (ofValue v) v := by
  cases v with
  | agg cs =>
    simp only [ofValue, VR]
    refine ⟨cs, rfl, ?_⟩
    have := VRs.map (ρ := ρ) (μ := μ) (f := ofLeaf) (g := id) cs.toList (fun v _ => ofLeaf_VR v)
    simpa using this
  | tuple cs =>
    unfold ofValue
    simp only
    split
    · rename_i h1; simp only [VR]; exact ⟨cs, rfl, by rw [h1]; exact .nil⟩
    · simp [VR]
  | _ => simp only [ofValue]; exact ofLeaf_VR _

/-- the cells behind a block -/
theorem cells_of (hr : HR P ρ μ h w) {b : Nat} {m : Nat × Nat × Nat} {e : Nat} {op : Bool} {n : Nat} {c : Tr AVal} (hm : μ b = some m) (hc : h.m.get b = some (.cells e op n c)) :
    ∃ cs fr info, w.heap[m.1]? = some (.cells cs e fr) ∧ cs.size = m.2.1 ∧ P.info? e = some info ∧ m.2.2 = info.size ∧
      (∀ i x, c.get i = some x → i < n ∧ ∃ v, cs[i]? = some v ∧ VR ρ μ x v) ∧ (∀ i, i < cs.size → ¬(fr.1 ≤ i ∧ i < fr.2)) := by
  obtain ⟨ob, h1, cs, fr, info, rfl, h3⟩ := hr.obj _ _ _ hc hm
  exact ⟨cs, fr, info, h1, h3⟩

theorem cell_of {m e : Nat} {cs : Array Value} {fr : Nat × Nat} {w : World} (hw : w.heap[m]? = some (.cells cs e fr)) (i : Nat) : w.cell? ⟨m, i, none⟩ = cs[i]? := by
  simp [World.cell?, hw]

theorem loadCells_sound (hr : HR P ρ μ h w) {b : Nat} {m : Nat × Nat × Nat} {e : Nat} {op : Bool} {n : Nat} {c : Tr AVal} (hm : μ b = some m) (hc : h.m.get b = some (.cells e op n c))
    {o s : Nat} {l : List AVal} (hl : c.gets o s = some l) : ∃ vs : List Value, VRs ρ μ l vs ∧ ∀ w' : World, w'.heap = w.heap → (loadCells ⟨m.1, o, none⟩ s).run P w' = .ok vs.toArray w' := by
  obtain ⟨cs, fr, info, hw, _, _, _, hget, _⟩ := cells_of hr hm hc
  obtain ⟨hlen, hx⟩ := Tr.gets_spec _ _ _ _ hl
  have hcell : ∀ i x, l[i]? = some x → ∃ v, cs[o + i]? = some v ∧ VR ρ μ x v := fun i x hi => (hget _ _ (hx i x hi)).2
  refine ⟨(List.range s).map fun i => cs.getD (o + i) undef, ?_, ?_⟩
  · refine VRs.of_get (by simp [hlen]) ?_
    intro i x v hi hv
    obtain ⟨u, hu, hxu⟩ := hcell i x hi
    have his : i < s := by rw [← hlen]; exact (List.getElem?_eq_some_iff.1 hi).1
    simp [his] at hv
    rw [← hv]
    simpa [Array.getD, Array.getElem?_eq_some_iff.1 hu |>.1, (Array.getElem?_eq_some_iff.1 hu).2] using hxu
  · intro w' hw'
    refine run_loadCells w' _ s _ ?_
    intro j hj
    rw [addr_add, cell_of (w := w') (by rw [hw']; exact hw)]
    obtain ⟨u, hu, _⟩ := hcell j _ (List.getElem?_eq_getElem (by omega))
    rw [hu]
    simp [Array.getD, Array.getElem?_eq_some_iff.1 hu |>.1, (Array.getElem?_eq_some_iff.1 hu).2]

theorem aload_sound (hr : HR P ρ μ h w) {t : TypeId} {b o : Nat} {m : Nat × Nat × Nat} {x : AVal} (hm : μ b = some m) (hx : aload P h t b o = some x) :
    ∃ v, VR ρ μ x v ∧ (loadVar t ⟨m.1, o, none⟩).run P w = .ok v w := by
  unfold aload at hx
  split at hx
  · rename_i e op n c hc
    split at hx
    · rename_i ha
      split at hx
      · rename_i s hs
        split at hx
        · rename_i l hl
          cases hx
          obtain ⟨vs, h1, h2⟩ := loadCells_sound hr hm hc hl
          refine ⟨.agg vs.toArray, ?_, ?_⟩
          · simp only [VR]; exact ⟨vs.toArray, rfl, by simpa using h1⟩
          · simp [loadVar, r_agg ha, r_size hs, h2 w rfl]
        · cases hx
      · cases hx
    · rename_i ha
      obtain ⟨cs, fr, info, hw, _, _, _, hget, _⟩ := cells_of hr hm hc
      obtain ⟨_, v, hv, hxv⟩ := hget _ _ hx
      refine ⟨v, hxv, ?_⟩
      simp [loadVar, r_agg ha, cell_of hw, hv]
    · cases hx
  · cases hx

theorem part_sound {t : TypeId} {l : List AVal} {off : Nat} {x : AVal} {vs : Array Value} (hl : VRs ρ μ l vs.toList) (hx : partA P t l off = some x) :
    ∃ v, VR ρ μ x v ∧ ∀ w, (part t vs off).run P w = .ok v w := by
  unfold partA at hx
  split at hx
  · rename_i s ha hs
    cases hx
    refine ⟨.agg (vs.extract off (off + s)), ?_, fun w => by simp [part, r_agg ha, r_size hs]⟩
    simp only [VR]
    refine ⟨_, rfl, ?_⟩
    have := (hl.drop off).take s
    simpa [Array.toList_extract, List.extract_eq_take_drop] using this
  · rename_i ha
    have hg : l[off]? = some x := by rw [List.head?_drop] at hx; exact hx
    obtain ⟨v, hv, hxv⟩ := hl.get hg
    refine ⟨v, hxv, fun w => ?_⟩
    simp at hv
    simp [part, r_agg ha, hv]
  · cases hx

theorem bytesEq_iff : ∀ a b : List Nat, bytesEq a b = decide (a = b) := by
  intro a
  induction a with
  | nil => intro b; cases b <;> rfl
  | cons x a ih =>
    intro b
    cases b with
    | nil => rfl
    | cons y b =>
      simp only [bytesEq, ih]
      rcases beq_tf x y with ⟨e, h1⟩ | ⟨e, h1⟩
      · rw [e]; subst h1; simp
      · rw [e]; simp [h1]

theorem toNat_inj_list : ∀ a b : List UInt8, a.map UInt8.toNat = b.map UInt8.toNat ↔ a = b := by
  intro a
  induction a with
  | nil => intro b; cases b <;> simp
  | cons x a ih =>
    intro b
    cases b with
    | nil => simp
    | cons y b => simp [ih, UInt8.toNat_inj]

theorem str_eq (a b : ByteArray) : bytesEq (a.data.toList.map UInt8.toNat) (b.data.toList.map UInt8.toNat) = (a.toList == b.toList) := by
  rw [bytesEq_iff, ByteArray.toList_eq, ByteArray.toList_eq]
  by_cases e : a.data.toList = b.data.toList
  · simp [e]
  · have : ¬ (a.data.toList.map UInt8.toNat = b.data.toList.map UInt8.toNat) := fun h => e ((toNat_inj_list _ _).1 h)
    simp only [this, decide_false]
    rw [Bool.eq_iff_iff]
    simp
    intro h; exact e (by rw [h])

theorem bytesLt_eq : ∀ a b : List UInt8, bytesLt (a.map UInt8.toNat) (b.map UInt8.toNat) = Op.bytesLess a b := by
  intro a
  induction a with
  | nil => intro b; cases b <;> rfl
  | cons x a ih =>
    intro b
    cases b with
    | nil => rfl
    | cons y b =>
      simp only [List.map_cons, bytesLt, Op.bytesLess, ih]
      congr 1
      · rw [Bool.eq_iff_iff]
        simp [Nat.blt_eq, UInt8.lt_iff_toNat_lt]
      · congr 1
        rw [Bool.eq_iff_iff]
        constructor
        · intro e; have := beq_eq e; simp [UInt8.toNat_inj.1 this]
        · intro e; simp at e; subst e; exact Nat.beq_refl _

theorem str_lt (a b : ByteArray) : bytesLt (a.data.toList.map UInt8.toNat) (b.data.toList.map UInt8.toNat) = Op.bytesLess a.toList b.toList := by
  rw [bytesLt_eq, ByteArray.toList_eq, ByteArray.toList_eq]

end
end Go.Ev
