/- Helpers for plans. -/
import Derived.Test.YtcfljlcdhacpdaaGreatEvMask
namespace Go.Ev

mutual
theorem same_eq : ∀ (a b : AVal), AVal.same a b = true → a = b
  | .bool a, b, h => by cases b <;> simp_all [AVal.same]
  | .int k a, b, h => by cases b <;> simp_all [AVal.same]
  | .str a, b, h => by cases b <;> simp_all [AVal.same]
  | .ptr0, b, h => by cases b <;> simp_all [AVal.same]
  | .ptr a c, b, h => by cases b <;> simp_all [AVal.same]
  | .sl0, b, h => by cases b <;> simp_all [AVal.same]
  | .sl _ _ _ _, b, h => by cases b <;> simp_all [AVal.same]
  | .so _ _ _ _, b, h => by cases b <;> simp_all [AVal.same]
  | .slE, b, h => by cases b <;> simp_all [AVal.same]
  | .map0, b, h => by cases b <;> simp_all [AVal.same]
  | .map _, b, h => by cases b <;> simp_all [AVal.same]
  | .fn f a c, b, h => by
    cases b <;> simp only [AVal.same, Bool.false_eq_true] at h
    simp only [Bool.and_eq_true, decide_eq_true_eq] at h
    rw [h.1.1, sames_eq _ _ h.1.2, sames_eq _ _ h.2]
  | .fn0, b, h => by cases b <;> simp_all [AVal.same]
  | .ifc t v, b, h => by
    cases b <;> simp only [AVal.same, Bool.false_eq_true] at h
    simp only [Bool.and_eq_true] at h
    rw [beq_eq h.1, same_eq _ _ h.2]
  | .ifc0, b, h => by cases b <;> simp_all [AVal.same]
  | .agg l, b, h => by
    cases b <;> simp only [AVal.same, Bool.false_eq_true] at h
    rw [sames_eq _ _ h]
  | .tup l, b, h => by
    cases b <;> simp only [AVal.same, Bool.false_eq_true] at h
    rw [sames_eq _ _ h]
  | .raw _, b, h => by cases b <;> simp_all [AVal.same]
  | .glob _ _, b, h => by cases b <;> simp_all [AVal.same]
  | .undef, b, h => by cases b <;> simp_all [AVal.same]
theorem sames_eq : ∀ (a b : List AVal), AVal.sames a b = true → a = b
  | [], [], _ => rfl
  | [], _ :: _, h => by simp [AVal.sames] at h
  | _ :: _, [], h => by simp [AVal.sames] at h
  | a :: l, b :: m, h => by
    simp only [AVal.sames, Bool.and_eq_true] at h
    rw [same_eq _ _ h.1, sames_eq _ _ h.2]
end

section
variable {P : Program} {orc : BinOp → Nat → AVal → Option Bool} {h : AH} {ops : Array Oper}

theorem fillAll_congr {e e' : Ev} {pl : Nat → Option (Nat × Nat)} : ∀ (l : List (Nat × Operand)) (cs : List AVal), (∀ p ∈ l, e p.2 = e' p.2) → fillAll e pl cs l = fillAll e' pl cs l := by
  intro l
  induction l with
  | nil => intro cs _; rfl
  | cons p l ih =>
    intro cs hl
    obtain ⟨i, x⟩ := p
    have h1 : e x = e' x := hl (i, x) (by simp)
    simp only [fillAll, h1]
    have h2 := fun cs => ih cs fun p hp => hl p (by simp [hp])
    simp only [h2]

theorem rdOp_congr {e e' : Ev} {op : Op} (he : ∀ x ∈ op.operands.toList, e x = e' x) : rdOp P orc h e op = rdOp P orc h e' op := by
  cases op with
  | build t parts =>
    simp only [rdOp]
    have : ∀ pl z, fillAll e pl z parts.toList = fillAll e' pl z parts.toList := fun pl z => fillAll_congr _ _ fun p hp => he p.2 (by simp only [Op.operands, List.mem_map]; exact ⟨p, hp, rfl⟩)
    simp only [this]
  | makeFunc fn first cap =>
    simp only [rdOp]
    have h1 : first.toList.map e = first.toList.map e' := List.map_congr_left fun x hx => he x (by simp [Op.operands]; left; simpa using hx)
    have h2 : cap.toList.map e = cap.toList.map e' := List.map_congr_left fun x hx => he x (by simp [Op.operands]; right; simpa using hx)
    rw [h1, h2]
  | slice t x lo hi mx =>
    simp only [rdOp]
    have h0 : e x = e' x := he x (by simp [Op.operands])
    have h1 : lo.map e = lo.map e' := by
      cases lo with
      | none => rfl
      | some y => simp only [Option.map_some]; rw [he y (by simp [Op.operands])]
    have h2 : hi.map e = hi.map e' := by
      cases hi with
      | none => rfl
      | some y => simp only [Option.map_some]; rw [he y (by simp [Op.operands])]
    have h3 : mx.map e = mx.map e' := by
      cases mx with
      | none => rfl
      | some y => simp only [Option.map_some]; rw [he y (by simp [Op.operands])]
    rw [h0, h1, h2, h3]
  | call c =>
    have h1 : ∀ x ∈ c.args.toList, e x = e' x := fun x hx => he x (by simp only [Op.operands, Call.operands]; cases c.callee <;> simp_all)
    have h2 : ∀ l, c.args.toList = l → l.map e = l.map e' := fun l hl => List.map_congr_left fun x hx => h1 x (by rw [hl]; exact hx)
    simp only [rdOp]
    split
    · split
      · rename_i x hx; rw [h1 x (by rw [hx]; simp)]
      · rfl
    · split
      · rename_i x l hx
        rw [h1 x (by rw [hx]; simp), List.map_congr_left fun y hy => h1 y (by rw [hx]; simp [hy])]
      · rfl
    · split
      · rename_i x l hx
        rw [h1 x (by rw [hx]; simp), List.map_congr_left fun y hy => h1 y (by rw [hx]; simp [hy])]
      · rfl
    · rfl
  | _ =>
    simp only [Op.operands, List.mem_cons, List.not_mem_nil, or_false, forall_eq_or_imp, forall_eq] at he
    first
      | rfl
      | (simp only [rdOp, he])
      | (simp only [rdOp]; rw [he])
      | (simp only [rdOp]; rw [he.1, he.2])
      | (simp only [rdOp]; rw [he.1, he.2.1, he.2.2])

theorem mem_tmpsOf : ∀ (l : List Operand) (t : Tmp), Operand.tmp t ∈ l → t ∈ tmpsOf l := by
  intro l
  induction l with
  | nil => intro t h; cases h
  | cons x l ih =>
    intro t h
    rcases List.mem_cons.1 h with h1 | h
    · subst h1; simp [tmpsOf]
    · have := ih t h
      cases x <;> simp [tmpsOf, this]

theorem mem_reads_op {o : Oper} {t : Tmp} (h : Operand.tmp t ∈ o.op.operands.toList) : t ∈ reads ops o := by
  have := mem_tmpsOf _ _ h
  unfold reads
  split
  · exact this
  · split
    · split
      · simp [this]
      · exact this
    · exact this

theorem mem_reads_guard {o o' : Oper} {g : Nat} {b : Bool} {d : Tmp} (hg : o.guard = some (g, b)) (ho : ops[g]? = some o') (hd : o'.dst = some d) : d ∈ reads ops o := by
  unfold reads
  rw [hg]
  simp only [ho, hd]
  simp

theorem ev_congr {T T' : Tr AVal} {o : Oper} (hT : ∀ t ∈ reads ops o, T.get t = T'.get t) : ∀ x ∈ o.op.operands.toList, ev T x = ev T' x := by
  intro x hx
  cases x with
  | tmp t => simp only [ev]; rw [hT t (mem_reads_op hx)]
  | _ => rfl

theorem wantedA_congr {T T' : Tr AVal} {o : Oper} (hT : ∀ t ∈ reads ops o, T.get t = T'.get t) : wantedA ops T o = wantedA ops T' o := by
  unfold wantedA
  split
  · rfl
  · rename_i j want hg
    split
    · rename_i o' ho'
      split
      · rename_i d hd
        rw [hT d (mem_reads_guard hg ho' hd)]
      · rfl
    · rfl

theorem ev_at {ρ : Nat → Value} {μ : Mu} {T : Tr AVal} {a : Act} {o : Oper} (hT : ∀ t ∈ reads ops o, ∀ x, T.get t = some x → VR ρ μ x (a.tmps.getD t undef)) :
    ∀ x ∈ o.op.operands.toList, VR ρ μ (ev T x) (a.eval x) := by
  intro x hx
  cases x with
  | tmp t =>
    simp only [ev, Act.eval]
    split
    · rename_i v hv; exact hT t (mem_reads_op hx) _ hv
    · simp only [VR]
  | const v => exact ofValue_VR v
  | global g => simp only [ev, Act.eval, VR]
  | func f => simp only [ev, Act.eval, VR]; exact ⟨_, _, _, rfl, rfl, .nil, .nil⟩

theorem wanted_at {ρ : Nat → Value} {μ : Mu} {T : Tr AVal} {a : Act} {o : Oper} {q : Bool} (he : wantedA ops T o = some q)
    (hT : ∀ t ∈ reads ops o, ∀ x, T.get t = some x → VR ρ μ x (a.tmps.getD t undef)) : Region.wanted o (yielded ops a.tmps) = q := by
  unfold wantedA at he
  unfold Region.wanted
  split at he
  · rename_i hg; cases he; rw [hg]
  · rename_i j want hg
    rw [hg]
    simp only
    split at he
    · rename_i o' ho'
      split at he
      · rename_i d hd
        have hd' := mem_reads_guard hg ho' hd
        split at he
        · rename_i p hp
          cases he
          have h1 := hT _ hd' _ hp
          simp only [VR] at h1
          have hlt : d < a.tmps.size := by
            rcases Nat.lt_or_ge d a.tmps.size with h | h
            · exact h
            · simp [Array.getD, Nat.not_lt.2 h, undef] at h1
          have h2 : a.tmps[d]? = some (.bool p) := by
            rw [Array.getElem?_eq_getElem hlt]
            simp [Array.getD, hlt] at h1
            rw [h1]
          simp [yielded, ho', hd, h2]
        · rename_i l hp
          cases he
          have h1 := hT _ hd' _ hp
          simp only [VR] at h1
          obtain ⟨vs, h1, _⟩ := h1
          have h2 : ∀ p, a.tmps[d]? ≠ some (.bool p) := by
            intro p h
            simp [Array.getD_eq_getD_getElem?, h] at h1
          have : yielded ops a.tmps j = none := by
            simp only [yielded, ho', hd, Option.bind_some]
          rw [this]; cases want <;> rfl
        · cases he
      · cases he
    · cases he

/-- what makes memory out of nothing: the object, whatever the world -/
theorem al_spec {o : Oper} {r0 : AVal × AH} {h0 : AH} {e0 : Ev} (ha : isAl o = true) (hw : wrOp P h0 e0 o = some r0) :
    ∃ (aobj : AObj) (mk : Nat → AVal) (mkv : Nat → Value) (ob : Obj) (sz es : Nat),
      (∀ h e, wrOp P h e o = some (mk h.next, h.new aobj)) ∧
      (∀ evl w, (execOp evl o).run P w = .ok (.value (mkv w.heap.size)) (pushObj w ob)) ∧
      (∀ ρ μ c, ObjR P ρ μ aobj (c, sz, es) ob) ∧
      (∀ ρ (μ : Mu) b c, μ b = some (c, sz, es) → VR ρ μ (mk b) (mkv c)) ∧ o.guard = none ∧ (∀ c, o.op ≠ .defer c) := by
  unfold isAl at ha
  split at ha
  · rename_i hg
    split at ha
    · rename_i elem hop
      simp only [wrOp, hop] at hw
      split at hw
      · rename_i z hz
        obtain ⟨info, hi⟩ := info_of_zeroOf hz
        obtain ⟨zv, rfl, hzr⟩ := r_zero hz
        refine ⟨.cells elem false (ofValue zv).cells.length (Tr.puts .lf 0 (ofValue zv).cells), fun b => .ptr b 0, fun c => .pointer (some ⟨c, 0, none⟩), .cells zv.cells elem, zv.cells.size, info.size, ?_, ?_, ?_, ?_, hg, ?_⟩
        · intro h e; simp only [wrOp, hop, hz, newCells]
        · intro evl w; simp [execOp, hop, Instr.alloc, hzr, newVar, run_newRow]
        · intro ρ μ c
          refine ⟨zv.cells, (0, 0), info, rfl, rfl, hi, rfl, ?_, by simp⟩
          intro i x hx
          rcases Tr.get_puts _ _ _ _ _ hx with ⟨_, hx'⟩ | ⟨_, hx'⟩
          · simp only [Nat.sub_zero] at hx'
            obtain ⟨v, h1, h2⟩ := (ofValue_cells (ρ := ρ) (μ := μ) zv).get hx'
            exact ⟨(List.getElem?_eq_some_iff.1 hx').1, v, by rw [← Array.getElem?_toList]; exact h1, h2⟩
          · cases hx'
        · intro ρ μ b c hm; simp only [VR]; exact ⟨_, hm, rfl⟩
        · intro c h; rw [hop] at h; cases h
      · cases hw
    · rename_i t hop
      refine ⟨.map [] 0, fun b => .map b, fun c => .map (some c), .map #[] 0, 0, 0, ?_, ?_, ?_, ?_, hg, ?_⟩
      · intro h e; simp only [wrOp, hop]
      · intro evl w; simp [execOp, hop, Instr.makeMap, pushObj]
      · intro ρ μ c; exact ⟨#[], rfl, rfl⟩
      · intro ρ μ b c hm; simp only [VR]; exact ⟨_, hm, rfl⟩
      · intro c h; rw [hop] at h; cases h
    · cases ha
  · cases ha
end
end Go.Ev
