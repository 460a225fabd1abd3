/- append, copy: the evaluator keeps step. -/
import Derived.Test.YtcfljlcdhacpdaaGreatEvMem
import Derived.Laws.Append
namespace Go.Ev
section
variable {P : Program} {ρ : Nat → Value} {μ : Mu} {h : AH} {w : World}

theorem ofValue_len (v : Value) : (ofValue v).cells.length = v.cells.size := by
  cases v with
  | agg cs => simp [ofValue, AVal.cells, Value.cells]
  | tuple cs => simp only [ofValue]; split <;> rfl
  | pointer a => cases a <;> rfl
  | slice a n c => simp only [ofValue, ofLeaf]; split <;> rfl
  | map r => cases r <;> rfl
  | func f a b => simp only [ofValue, ofLeaf]; split <;> rfl
  | _ => rfl

theorem zeroLen_spec {t : TypeId} {info : TypeInfo} (hi : P.info? t = some info) (hz : zeroLen P t = some ()) : ∃ zv, (∀ w, (zeroValue t).run P w = .ok zv w) ∧ zv.cells.size = info.size := by
  unfold zeroLen at hz
  split at hz
  · rename_i z s hz1 hs
    split at hz
    · rename_i hb
      have hb := beq_eq hb
      obtain ⟨zv, rfl, hzr⟩ := r_zero hz1
      refine ⟨zv, hzr, ?_⟩
      rw [ofValue_len] at hb
      unfold szOf at hs
      rw [hi] at hs
      cases hs
      exact hb
    · cases hz
  · cases hz

theorem lenOf_sound {x : AVal} {x' : Value} {m : Nat} (he : lenOfA x = some m) (hx : VR ρ μ x x') (w : World) : (Builtin.lenOf x').run P w = .ok m w := by
  unfold lenOfA at he
  split at he
  · cases he; simp only [VR] at hx; subst hx; rfl
  · cases he; simp only [VR] at hx; obtain ⟨a, c, rfl⟩ := hx; rfl
  · cases he; simp only [VR] at hx; obtain ⟨m, _, rfl⟩ := hx; rfl
  · cases he; simp only [VR] at hx; obtain ⟨m, c, _, _, rfl, _⟩ := hx; rfl
  · cases he; simp only [VR] at hx; obtain ⟨b, rfl, rfl⟩ := hx
    have e1 : (b.data.toList.map UInt8.toNat).length = b.size := by rw [List.length_map, Array.length_toList]; rfl
    rw [e1]; rfl
  · cases he

theorem cellsOf_VRs : ∀ (l : List UInt8), VRs ρ μ (cellsOf (l.map UInt8.toNat)) (l.map fun b => Value.int .u8 b.toNat) := by
  intro l
  induction l with
  | nil => exact .nil
  | cons x l ih => exact .cons (by simp only [VR]) ih

theorem firstA_sound (hr : HR P ρ μ h w) {size m : Nat} {x : AVal} {x' : Value} {l : List AVal} (he : firstA h size m x = some l) (hx : VR ρ μ x x') :
    ∃ vs : Array Value, VRs ρ μ l vs.toList ∧ ∀ w' : World, w'.heap = w.heap → (Builtin.firstCells size m x').run P w' = .ok vs w' := by
  unfold firstA at he
  split at he
  · cases he; simp only [VR] at hx; subst hx; exact ⟨#[], .nil, fun _ _ => rfl⟩
  · split at he
    · cases he; simp only [VR] at hx; obtain ⟨a, c, rfl⟩ := hx
      exact ⟨#[], .nil, fun _ _ => by simp [Builtin.firstCells, loadCells, loadCellsFrom]⟩
    · cases he
  · simp only [VR] at hx; obtain ⟨bm, hm, rfl⟩ := hx
    split at he
    · rename_i e op n c hc
      obtain ⟨vs, h1, h2⟩ := loadCells_sound hr hm hc he
      exact ⟨vs.toArray, by simpa using h1, h2⟩
    · cases he
  · simp only [VR] at hx; obtain ⟨bm, cc, hm, _, rfl, _⟩ := hx
    split at he
    · rename_i e op n c hc
      obtain ⟨vs, h1, h2⟩ := loadCells_sound hr hm hc he
      exact ⟨vs.toArray, by simpa using h1, h2⟩
    · cases he
  · cases he; simp only [VR] at hx; obtain ⟨b, rfl, rfl⟩ := hx
    refine ⟨_, ?_, fun _ _ => rfl⟩
    have := cellsOf_VRs (ρ := ρ) (μ := μ) (b.data.toList.take m)
    rw [← List.map_take]
    have e : (Array.map (fun b => Value.int IntKind.u8 (b.toNat : Int)) (b.extract 0 m).data).toList = List.map (fun b => Value.int IntKind.u8 (b.toNat : Int)) (List.take m b.data.toList) := by
      rw [Array.toList_map, ByteArray.data_extract, Array.toList_extract, List.extract_eq_take_drop]
      simp
    rw [e]
    exact this
  · cases he

theorem firstA_len {size m : Nat} {x : AVal} {l : List AVal} (he : firstA h size m x = some l) (hm : lenOfA x = some m) : l.length = m * size ∨ ∃ s, x = .str s ∧ l.length = m := by
  unfold firstA at he
  unfold lenOfA at hm
  split at he
  · cases he; simp at hm; subst hm; left; simp
  · split at he
    · cases he; left; simp
    · cases he
  · split at he
    · exact .inl (Tr.gets_spec _ _ _ _ he).1
    · cases he
  · split at he
    · exact .inl (Tr.gets_spec _ _ _ _ he).1
    · cases he
  · cases he
    rename_i s
    simp at hm
    exact .inr ⟨s, rfl, by simp [cellsOf, hm]⟩
  · cases he

theorem Ok.same (hr : HR P ρ μ h w) {w' : World} (h1 : w'.heap = w.heap) (h2 : w'.os = w.os) (h3 : w'.tape = w.tape) (h4 : w'.output = w.output) : Ok P ρ μ h w μ h w' where
  hr := ⟨fun b m hb => by rw [h1]; exact hr.lt b m hb, hr.inj, fun b o m hb hm => by rw [h1]; exact hr.obj b o m hb hm, hr.fresh⟩
  le := .refl _
  rng := fun _ _ e => .inl e
  nxt := Nat.le_refl _
  frm := ⟨h2, h3, h4, by rw [h1]; exact Nat.le_refl _, fun c _ _ => by rw [h1]⟩

/-- what append comes to, where nothing is read of a type -/
theorem run_append {ts : Array TypeId} {ty st xt elem : TypeId} {d : TypeDesc} {info : TypeInfo} {base : Option Addr} {len cap m : Nat} {x' : Value} (hst : ts[0]? = some st) (hxt : ts[1]? = some xt)
    (hu : P.underlying st = some (.slice elem)) (hux : P.underlying xt = some d) (hni : ∀ k, d ≠ .int k) (hi : P.info? elem = some info) (w : World) (hlen : ∀ w, (Builtin.lenOf x').run P w = .ok m w)
    (zv : Value) (hz : ∀ w, (zeroValue elem).run P w = .ok zv w) (hsmall : cap < len + m → (len + m) * info.bytes < 1000000 ∧ len + m < 1000000) :
    (Builtin.append_ ts ty #[.slice base len cap, x']).run P w =
      if len + m ≤ cap then ((Builtin.firstCells info.size m x').run P w).andThen fun new w => (match base with
          | some a => (storeCells (a.add (len * info.size)) new.toList).run P w
          | none => .ok () w).andThen fun _ w => .ok (.slice base (len + m) cap) w
      else let w1 : World := { w with drawn := w.drawn + 1 }
        let nc := Question.cut (.appendCap (len + m) cap elem) (w.tape w.drawn (.appendCap (len + m) cap elem))
        ((Builtin.firstCells info.size len (.slice base len cap)).run P w1).andThen fun old w => ((Builtin.firstCells info.size m x').run P w).andThen fun new w =>
          .ok (.slice (some ⟨w.heap.size, 0, none⟩) (len + m) nc) (pushObj w (.cells (old ++ new ++ Builtin.zeroCells zv.cells (nc - (len + m))) elem)) := by
  have hzeros : (d matches .int _) = false := by
    cases d <;> first | rfl | exact absurd rfl (hni _)
  have hs : szOf P elem = some info.size := by simp [szOf, hi]
  have hd : ∀ {α : Type} (f g : Sem α), (match d with | .int _ => f | _ => g) = g := by
    intro α f g; cases d <;> first | rfl | exact absurd rfl (hni _)
  by_cases hfit : len + m ≤ cap
  · rw [if_pos hfit]
    unfold Builtin.append_
    simp only [hst, hxt, List.getElem?_toArray, List.getElem?_cons_zero, List.getElem?_cons_succ, Sem.run_bind, r_under hu, Result.andThen_ok, r_size hs, r_under hux, Sem.run_pure, hzeros,
      Bool.false_eq_true, if_false, hlen, hfit, if_true, Bool.not_false]
    cases base <;> simp
  · rw [if_neg hfit]
    obtain ⟨hb1, hb2⟩ := hsmall (by omega)
    have hg : ¬ (Builtin.nextslicecap (len + m) cap * info.bytes > 2 ^ 48) := by
      have := growslice_fits (need := len + m) (old := cap) (bytes := info.bytes) (by omega) (by omega)
      omega
    have hbig : ¬ (((len + m : Nat) : Int) > IntKind.i64.max ∧ (False ∨ info.bytes = 0)) := by
      have : IntKind.i64.max = 9223372036854775807 := by rfl
      omega
    unfold Builtin.append_
    simp only [hst, hxt, List.getElem?_toArray, List.getElem?_cons_zero, List.getElem?_cons_succ, Sem.run_bind, r_under hu, Result.andThen_ok, r_size hs, r_under hux, Sem.run_pure, hzeros,
      Bool.false_eq_true, if_false, hlen, hfit, if_true, Bool.not_false, r_info hi]
    rw [if_neg hbig]
    simp only [Sem.run_bind, r_info hi, Result.andThen_ok]
    rw [if_neg hg]
    simp only [Sem.run_bind, run_choose, Question.forced, Bool.false_eq_true, if_false, Result.andThen_ok, r_info hi, run_askRoom, hz, run_newRow, Sem.run_pure]

theorem size_zeroCells' (z : Array Value) (n : Nat) : (Builtin.zeroCells z n).size = n * z.size := by simp [Builtin.zeroCells]

theorem cut_ge (w : World) (need cap : Nat) (e : TypeId) (n : Nat) : need ≤ Question.cut (.appendCap need cap e) n := by
  simp only [Question.cut]; omega

/-- a row of one's own that goes over into a longer one: in its place, or in a new one -/
theorem Ok.consume (hr : HR P ρ μ h w) {b : Nat} {m m' : Nat × Nat × Nat} {o old : AObj} {ob : Obj} {w' : World} (hm : μ b = some m) (hold : h.m.get b = some old)
    (hm' : (m' = m ∧ w'.heap.size = w.heap.size ∧ ∀ c, c ≠ m.1 → w'.heap[c]? = w.heap[c]?) ∨ (m'.1 = w.heap.size ∧ w'.heap.size = w.heap.size + 1 ∧ ∀ c, c < w.heap.size → w'.heap[c]? = w.heap[c]?))
    (hw : w'.heap[m'.1]? = some ob) (hos : w'.os = w.os) (htape : w'.tape = w.tape) (hout : w'.output = w.output)
    (ho : ∀ μ', Mu.le μ μ' → ObjR P ρ μ' o m' ob) :
    Ok P ρ μ h w (fun k => if k = h.next then some m' else μ k) { next := h.next + 1, m := (h.m.del b).put h.next o } w' := by
  have hnone : μ h.next = none := by
    cases e : μ h.next with
    | none => rfl
    | some m => exact absurd (hr.lt _ _ e).1 (Nat.lt_irrefl _)
  have hle : Mu.le μ (fun k => if k = h.next then some m' else μ k) := by
    intro k mk hk
    simp only
    rw [if_neg]; · exact hk
    intro e; rw [e, hnone] at hk; cases hk
  have hcase : ∀ k mk, (if k = h.next then some m' else μ k) = some mk → (k = h.next ∧ mk = m') ∨ (k ≠ h.next ∧ μ k = some mk) := by
    intro k mk hk
    split at hk
    · rename_i e; exact .inl ⟨e, by injection hk with e; exact e.symm⟩
    · rename_i e; exact .inr ⟨e, hk⟩
  have hget : ∀ k x, ((h.m.del b).put h.next o).get k = some x → (k = h.next ∧ x = o) ∨ (k ≠ h.next ∧ k ≠ b ∧ h.m.get k = some x) := by
    intro k x hx
    rcases Tr.get_put hx with ⟨e, e2⟩ | ⟨hne, hx'⟩
    · exact .inl ⟨e, e2.symm⟩
    · obtain ⟨h1, h2⟩ := Tr.get_del hx'
      exact .inr ⟨hne, h1, h2⟩
  have hsize : w.heap.size ≤ w'.heap.size := by rcases hm' with ⟨_, e, _⟩ | ⟨_, e, _⟩ <;> omega
  have hmlt : m.1 < w.heap.size := (hr.lt _ _ hm).2
  have hother : ∀ k mk x, k ≠ b → μ k = some mk → h.m.get k = some x → mk.1 ≠ m'.1 ∧ w'.heap[mk.1]? = w.heap[mk.1]? := by
    intro k mk x hkb hk hx
    have hne : mk.1 ≠ m.1 := fun e => hkb (hr.inj k b mk m x old hk hm hx hold e)
    have hlt := (hr.lt k mk hk).2
    rcases hm' with ⟨rfl, _, h3⟩ | ⟨e, _, h3⟩
    · exact ⟨hne, h3 _ hne⟩
    · exact ⟨by omega, h3 _ hlt⟩
  refine ⟨⟨?_, ?_, ?_, ?_⟩, hle, ?_, by simp, ⟨hos, htape, hout, hsize, ?_⟩⟩
  · intro k mk hk
    rcases hcase k mk hk with ⟨rfl, rfl⟩ | ⟨_, hk'⟩
    · refine ⟨by simp, ?_⟩
      rcases hm' with ⟨rfl, e, _⟩ | ⟨e, e2, _⟩ <;> omega
    · have := hr.lt k mk hk'; exact ⟨by simp only; omega, by omega⟩
  · intro k k' mk mk' x x' hk hk' hx hx' e
    rcases hcase k mk hk with ⟨rfl, rfl⟩ | ⟨hne, hk1⟩ <;> rcases hcase k' mk' hk' with ⟨rfl, rfl⟩ | ⟨hne', hk1'⟩
    · rfl
    · rcases hget k' x' hx' with ⟨e1, _⟩ | ⟨_, hb, hx1⟩
      · exact absurd e1 hne'
      · exact absurd e.symm (hother k' mk' x' hb hk1' hx1).1
    · rcases hget k x hx with ⟨e1, _⟩ | ⟨_, hb, hx1⟩
      · exact absurd e1 hne
      · exact absurd e (hother k mk x hb hk1 hx1).1
    · rcases hget k x hx with ⟨e1, _⟩ | ⟨_, _, hx1⟩
      · exact absurd e1 hne
      rcases hget k' x' hx' with ⟨e1, _⟩ | ⟨_, _, hx1'⟩
      · exact absurd e1 hne'
      exact hr.inj k k' mk mk' x x' hk1 hk1' hx1 hx1' e
  · intro k x mk hx hk
    rcases hget k x hx with ⟨rfl, rfl⟩ | ⟨hne, hb, hx'⟩
    · rcases hcase _ mk hk with ⟨_, rfl⟩ | ⟨hne, _⟩
      · exact ⟨ob, hw, ho _ hle⟩
      · exact absurd rfl hne
    · rcases hcase _ mk hk with ⟨e, _⟩ | ⟨_, hk'⟩
      · exact absurd e hne
      · obtain ⟨ob', h1, h2⟩ := hr.obj k x mk hx' hk'
        exact ⟨ob', by rw [(hother k mk x hb hk' hx').2]; exact h1, h2.mono hle⟩
  · intro k x hx
    rcases hget k x hx with ⟨rfl, rfl⟩ | ⟨_, _, hx'⟩
    · simp
    · have := hr.fresh k x hx'; simp only; omega
  · intro k mk hk
    rcases hcase k mk hk with ⟨rfl, rfl⟩ | ⟨_, hk'⟩
    · refine .inr ⟨hnone, Nat.le_refl _, ?_⟩
      rcases hm' with ⟨rfl, _⟩ | ⟨e, _⟩
      · exact .inr ⟨b, _, hm, rfl⟩
      · exact .inl (by omega)
    · exact .inl hk'
  · intro c hc hn
    rcases hm' with ⟨_, _, h3⟩ | ⟨_, _, h3⟩
    · exact h3 c fun e => hn b m hm e.symm
    · exact h3 c hc
end
end Go.Ev
