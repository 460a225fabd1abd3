/- New rows, stores: the abstract memory keeps step with the model's. -/
import Derived.Test.YtcfljlcdhacpdaaGreatEvRdOp
import Derived.Laws.IdiomCopy
namespace Go.Ev
section
variable {P : Program} {ρ : Nat → Value} {μ : Mu} {h : AH} {w : World}

def pushObj (w : World) (o : Obj) : World := { w with heap := w.heap.push o }
def muNew (μ : Mu) (h : AH) (w : World) (sz es : Nat) : Mu := fun b => if b = h.next then some (w.heap.size, sz, es) else μ b

theorem Ok.push (hr : HR P ρ μ h w) {o : AObj} {ob : Obj} (sz es : Nat) (ho : ObjR P ρ (muNew μ h w sz es) o (w.heap.size, sz, es) ob) :
    Ok P ρ μ h w (muNew μ h w sz es) (h.new o) (pushObj w ob) ∧ muNew μ h w sz es h.next = some (w.heap.size, sz, es) ∧ Mu.le μ (muNew μ h w sz es) := by
  have := Ok.new hr sz es (μ' := muNew μ h w sz es) rfl ho (w' := pushObj w ob)
    (by show (w.heap.push ob)[w.heap.size]? = some ob; rw [Array.getElem?_push]; simp)
    (fun c hc => by show (w.heap.push ob)[c]? = w.heap[c]?; rw [Array.getElem?_push, if_neg (Nat.ne_of_lt hc)]) (by show (w.heap.push ob).size = _; rw [Array.size_push]) rfl rfl rfl
  exact ⟨this.1, this.2, this.1.le⟩

theorem muNew_le (hr : HR P ρ μ h w) (sz es : Nat) : Mu.le μ (muNew μ h w sz es) := by
  intro b m hb
  simp only [muNew]
  rw [if_neg]; · exact hb
  have := (hr.lt b m hb).1
  omega

/-- a new row of cells, the first of which read so -/
theorem Ok.newCells (hr : HR P ρ μ h w) {elem : Nat} {info : TypeInfo} (hi : P.info? elem = some info) (op : Bool) {l : List AVal} {cs : Array Value}
    (hl : ∀ (i : Nat) (x : AVal), l[i]? = some x → ∃ v, cs[i]? = some v ∧ VR ρ μ x v) :
    Ok P ρ μ h w (muNew μ h w cs.size info.size) (newCells h elem op l) (pushObj w (.cells cs elem)) ∧
      muNew μ h w cs.size info.size h.next = some (w.heap.size, cs.size, info.size) ∧ Mu.le μ (muNew μ h w cs.size info.size) := by
  refine Ok.push hr cs.size info.size ?_
  refine ⟨cs, (0, 0), info, rfl, rfl, hi, rfl, ?_, by simp⟩
  intro i x hx
  rcases Tr.get_puts _ _ _ _ _ hx with ⟨_, hx'⟩ | ⟨_, hx'⟩
  · simp only [Nat.sub_zero] at hx'
    obtain ⟨v, h1, h2⟩ := hl i x hx'
    exact ⟨(List.getElem?_eq_some_iff.1 hx').1, v, h1, VR.mono (muNew_le hr _ _) _ _ h2⟩
  · cases hx'

theorem run_newRow (elem : TypeId) (cs : Array Value) (w : World) : (newRow elem cs).run P w = .ok ⟨w.heap.size, 0, none⟩ (pushObj w (.cells cs elem)) := by
  simp [newRow, pushObj]

theorem storeA_spec : ∀ (l : List AVal) (c c' : Tr AVal) (o : Nat), storeA c o l = some c' →
    (∀ i x, c'.get i = some x → (o ≤ i ∧ l[i - o]? = some x) ∨ ((i < o ∨ o + l.length ≤ i) ∧ c.get i = some x)) ∧
    (∀ j, j < l.length → ∃ y, c.get (o + j) = some y) ∧ (∀ x ∈ l, x.one = true) := by
  intro l
  induction l with
  | nil => intro c c' o he; simp only [storeA, Option.some.injEq] at he; subst he; exact ⟨fun i x hx => .inr ⟨by simp; omega, hx⟩, by simp, by simp⟩
  | cons x l ih =>
    intro c c' o he
    simp only [storeA] at he
    split at he
    · rename_i y hy
      split at he
      · rename_i ho
        obtain ⟨h1, h2, h3⟩ := ih _ _ _ he
        refine ⟨?_, ?_, ?_⟩
        · intro i z hz
          rcases h1 i z hz with ⟨ha, hb⟩ | ⟨ha, hb⟩
          · refine .inl ⟨by omega, ?_⟩
            rw [show i - o = (i - (o + 1)) + 1 by omega, List.getElem?_cons_succ]; exact hb
          · rcases Tr.get_put hb with ⟨rfl, rfl⟩ | ⟨hne, hb'⟩
            · exact .inl ⟨Nat.le_refl _, by simp⟩
            · exact .inr ⟨by simp only [List.length_cons]; omega, hb'⟩
        · intro j hj
          cases j with
          | zero => exact ⟨y, hy⟩
          | succ j =>
            obtain ⟨z, hz⟩ := h2 j (by simpa using hj)
            rcases Tr.get_put hz with ⟨e, _⟩ | ⟨_, hz'⟩
            · omega
            · exact ⟨z, by rw [show o + (j + 1) = o + 1 + j by omega]; exact hz'⟩
        · intro z hz
          rcases List.mem_cons.1 hz with rfl | hz
          · exact ho
          · exact h3 z hz
      · cases he
    · cases he

def setAll (cs : Array Value) (o : Nat) : List Value → Array Value
  | [] => cs
  | v :: l => setAll (cs.setIfInBounds o v) (o + 1) l

theorem setAll_size : ∀ (l : List Value) (cs : Array Value) (o : Nat), (setAll cs o l).size = cs.size := by
  intro l
  induction l with
  | nil => intro cs o; rfl
  | cons v l ih => intro cs o; simp [setAll, ih]

theorem setAll_get : ∀ (l : List Value) (cs : Array Value) (o i : Nat), (setAll cs o l)[i]? = if o ≤ i ∧ i < o + l.length ∧ i < cs.size then l[i - o]? else cs[i]? := by
  intro l
  induction l with
  | nil => intro cs o i; simp only [setAll]; rw [if_neg]; simp; omega
  | cons v l ih =>
    intro cs o i
    simp only [setAll, ih, Array.size_setIfInBounds, List.length_cons, Array.getElem?_setIfInBounds]
    by_cases h1 : o = i
    · subst h1
      simp only [show ¬ (o + 1 ≤ o) by omega, false_and, if_false, if_true, Nat.sub_self, List.getElem?_cons_zero, Nat.le_refl, true_and]
      by_cases h2 : o < cs.size
      · simp [h2]
      · simp [h2]
    · simp only [h1, if_false]
      by_cases h2 : o + 1 ≤ i ∧ i < o + 1 + l.length ∧ i < cs.size
      · rw [if_pos h2, if_pos (by omega), show i - o = (i - (o + 1)) + 1 by omega, List.getElem?_cons_succ]
      · rw [if_neg h2, if_neg (by omega)]

theorem setCells_heap (b : Nat) : ∀ (vs : List Value) (o : Nat) (w : World) (cs : Array Value) (e : TypeId) (fr : Nat × Nat), w.heap[b]? = some (.cells cs e fr) →
    (w.setCells b o vs).heap[b]? = some (.cells (setAll cs o vs) e fr) ∧ (∀ k, k ≠ b → (w.setCells b o vs).heap[k]? = w.heap[k]?) ∧ (w.setCells b o vs).heap.size = w.heap.size ∧
      (w.setCells b o vs).os = w.os ∧ (w.setCells b o vs).tape = w.tape ∧ (w.setCells b o vs).output = w.output := by
  intro vs
  induction vs with
  | nil => intro o w cs e fr hw; exact ⟨hw, fun _ _ => rfl, rfl, rfl, rfl, rfl⟩
  | cons v vs ih =>
    intro o w cs e fr hw
    have h1 : (w.setCell ⟨b, o, none⟩ v).heap[b]? = some (.cells (cs.setIfInBounds o v) e fr) := by
      simp [World.setCell, Array.getElem?_modify, hw]
    obtain ⟨a1, a2, a3, a4, a5, a6⟩ := ih (o + 1) _ _ _ _ h1
    refine ⟨a1, ?_, ?_, a4, a5, a6⟩
    · intro k hk
      simp only [World.setCells] at a2 ⊢
      rw [a2 k hk]
      simp [World.setCell, Array.getElem?_modify, Ne.symm hk]
    · simp only [World.setCells] at a3 ⊢
      rw [a3]; simp [World.setCell]

theorem oneCell_of {x : AVal} {v : Value} (h : VR ρ μ x v) (ho : x.one = true) : v.oneCell' = true := by
  have := h.one ho
  cases v <;> first | rfl | cases this

/-- cells are written -/
theorem Ok.store (hr : HR P ρ μ h w) {b : Nat} {m : Nat × Nat × Nat} {e : Nat} {op : Bool} {n : Nat} {c c' : Tr AVal} (hm : μ b = some m) (hc : h.m.get b = some (.cells e op n c))
    {o : Nat} {l : List AVal} (hs : storeA c o l = some c') {vs : List Value} (hvs : VRs ρ μ l vs) :
    Ok P ρ μ h w μ (h.upd b (.cells e op n c')) (w.setCells m.1 o vs) ∧ (storeCells ⟨m.1, o, none⟩ vs).run P w = .ok () (w.setCells m.1 o vs) := by
  obtain ⟨cs, fr, info, hw, hsz, hi, hes, hget, hfr⟩ := cells_of hr hm hc
  obtain ⟨s1, s2, s3⟩ := storeA_spec _ _ _ _ hs
  obtain ⟨a1, a2, a3, a4, a5, a6⟩ := setCells_heap m.1 vs o w cs e fr hw
  have hlen := hvs.length
  have hin : ∀ j, j < vs.length → o + j < cs.size := by
    intro j hj
    obtain ⟨y, hy⟩ := s2 j (by omega)
    obtain ⟨_, v, hv, _⟩ := hget _ _ hy
    exact (Array.getElem?_eq_some_iff.1 hv).1
  constructor
  · refine Ok.upd hr hm hc ?_ a1 a2 a3 a4 a5 a6
    refine ⟨_, fr, info, rfl, by rw [setAll_size]; exact hsz, hi, hes, ?_, by rw [setAll_size]; exact hfr⟩
    intro i x hx
    rcases s1 i x hx with ⟨h1, h2⟩ | ⟨h1, h2⟩
    · obtain ⟨v, hv, hxv⟩ := hvs.get h2
      have hj : i - o < vs.length := (List.getElem?_eq_some_iff.1 hv).1
      have hics := hin _ hj
      rw [show o + (i - o) = i by omega] at hics
      obtain ⟨y, hy⟩ := s2 (i - o) (by omega)
      rw [show o + (i - o) = i by omega] at hy
      refine ⟨(hget _ _ hy).1, v, ?_, hxv⟩
      rw [setAll_get, if_pos ⟨h1, by omega, hics⟩]
      exact hv
    · obtain ⟨h3, v, hv, hxv⟩ := hget _ _ h2
      refine ⟨h3, v, ?_, hxv⟩
      rw [setAll_get, if_neg (by omega)]
      exact hv
  · refine run_storeCells_cells m.1 o vs 0 w ?_ ?_ ?_
    · intro j hj
      rw [Nat.add_zero, cell_of hw]
      have := hin j hj
      simp [this]
    · intro j hj
      rw [Nat.add_zero]
      have := hfr (o + j) (hin j hj)
      simp only [World.frozen?, hw]
      obtain ⟨lo, hi'⟩ := fr
      simp only at this ⊢
      rw [Bool.eq_false_iff]
      intro e
      simp at e
      exact this ⟨e.1, e.2⟩
    · intro v hv
      obtain ⟨i, hi', rfl⟩ := List.getElem_of_mem hv
      have : l[i]? = some (l[i]'(by omega)) := List.getElem?_eq_getElem (by omega)
      obtain ⟨v', h1, h2⟩ := hvs.get this
      rw [List.getElem?_eq_getElem hi'] at h1
      cases h1
      exact oneCell_of h2 (s3 _ (List.getElem_mem _))

/-- a variable is written -/
theorem astore_sound (hr : HR P ρ μ h w) {t : TypeId} {b o : Nat} {m : Nat × Nat × Nat} {x : AVal} {v : Value} {h' : AH} (hm : μ b = some m) (he : astore P h t b o x = some h') (hx : VR ρ μ x v) :
    ∃ w', Ok P ρ μ h w μ h' w' ∧ (storeVar t ⟨m.1, o, none⟩ v).run P w = .ok () w' := by
  unfold astore at he
  split at he
  · rename_i e op s c z hc hz
    split at he
    · rename_i hl
      have hl := beq_eq hl
      split at he
      · rename_i c' hc'
        cases he
        have hone := (storeA_spec _ _ _ _ hc').2.2
        by_cases hu : x = .undef
        · subst hu; have := hone .undef (by simp [AVal.cells]); cases this
        by_cases hraw : ∃ i, x = .raw i
        · obtain ⟨i, rfl⟩ := hraw; have := hone (.raw i) (by simp [AVal.cells]); cases this
        have hcells := VR.cells hx hu (fun i e => hraw ⟨i, e⟩)
        obtain ⟨h1, h2⟩ := Ok.store hr hm hc hc' hcells
        refine ⟨_, h1, ?_⟩
        have hlen := hcells.length
        simp only [Array.length_toList] at hlen
        have : ¬ (v.cells.size ≠ z) := by omega
        simp [storeVar, r_size hz, show v.cells.size = z by omega, h2]
      · cases he
    · cases he
  · cases he
end
end Go.Ev
