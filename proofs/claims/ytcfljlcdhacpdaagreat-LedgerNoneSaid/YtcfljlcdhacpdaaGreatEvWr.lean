/- WHAT WRITES OR MAKES MEMORY, and calls nothing. -/
import Derived.Test.YtcfljlcdhacpdaaGreatEvApp2
namespace Go.Ev
section
variable {P : Program} {ρ : Nat → Value} {μ : Mu} {h : AH} {w : World}

theorem ofValue_cells (v : Value) : VRs ρ μ (ofValue v).cells v.cells.toList := by
  cases v with
  | agg cs =>
    have := ofValue_VR (ρ := ρ) (μ := μ) (.agg cs)
    simp only [ofValue] at this ⊢
    simp only [VR] at this
    obtain ⟨vs, h1, h2⟩ := this
    cases h1; exact h2
  | tuple cs =>
    have := ofValue_VR (ρ := ρ) (μ := μ) (.tuple cs)
    have e : (ofValue (.tuple cs)).cells = [ofValue (.tuple cs)] := by simp only [ofValue]; split <;> rfl
    rw [e]; exact .cons this .nil
  | pointer a => have := ofValue_VR (ρ := ρ) (μ := μ) (.pointer a); cases a <;> exact .cons this .nil
  | slice a n c =>
    have := ofValue_VR (ρ := ρ) (μ := μ) (.slice a n c)
    have e : (ofValue (.slice a n c)).cells = [ofValue (.slice a n c)] := by simp only [ofValue, ofLeaf]; split <;> rfl
    rw [e]; exact .cons this .nil
  | map r => have := ofValue_VR (ρ := ρ) (μ := μ) (.map r); cases r <;> exact .cons this .nil
  | func f a b =>
    have := ofValue_VR (ρ := ρ) (μ := μ) (.func f a b)
    have e : (ofValue (.func f a b)).cells = [ofValue (.func f a b)] := by simp only [ofValue, ofLeaf]; split <;> rfl
    rw [e]; exact .cons this .nil
  | bool b => exact .cons (ofValue_VR (.bool b)) .nil
  | int k n => exact .cons (ofValue_VR (.int k n)) .nil
  | float k b => exact .cons (ofValue_VR (.float k b)) .nil
  | complex k a b => exact .cons (ofValue_VR (.complex k a b)) .nil
  | string s => exact .cons (ofValue_VR (.string s)) .nil
  | chan r => exact .cons (ofValue_VR (.chan r)) .nil
  | nilFunc => exact .cons (ofValue_VR .nilFunc) .nil
  | iface t v => exact .cons (ofValue_VR (.iface t v)) .nil
  | nilIface => exact .cons (ofValue_VR .nilIface) .nil

theorem repeatL_get (z : List AVal) : ∀ (m i : Nat), i < m * z.length → (repeatL z m)[i]? = z[i % z.length]? := by
  intro m
  induction m with
  | zero => intro i hi; omega
  | succ m ih =>
    intro i hi
    simp only [repeatL]
    by_cases hlt : i < z.length
    · rw [List.getElem?_append_left hlt, Nat.mod_eq_of_lt hlt]
    · rw [List.getElem?_append_right (by omega), ih (i - z.length) (by rw [Nat.add_mul] at hi; omega)]
      congr 1
      rw [← Nat.mod_eq_sub_mod (by omega)]
theorem repeatL_length (z : List AVal) : ∀ m, (repeatL z m).length = m * z.length := by
  intro m
  induction m with
  | zero => simp [repeatL]
  | succ m ih => simp [repeatL, ih, Nat.add_mul, Nat.add_comm]

theorem zeros_VRs {zv : Value} {m n : Nat} (hn : n = m * zv.cells.size) :
    VRs ρ μ (repeatL (ofValue zv).cells m) ((Array.range n).map fun i => (if n = 0 then #[] else zv.cells)[i % (if n = 0 then (#[] : Array Value) else zv.cells).size]!).toList := by
  have hl := (ofValue_cells (ρ := ρ) (μ := μ) zv)
  have hlen := hl.length
  simp only [Array.length_toList] at hlen
  refine VRs.of_get (by rw [repeatL_length, hlen]; simp [hn]) ?_
  intro i x v hx hv
  have hi : i < m * zv.cells.size := by
    have := (List.getElem?_eq_some_iff.1 hx).1
    rw [repeatL_length, hlen] at this; exact this
  rw [repeatL_get _ _ _ (by rw [hlen]; exact hi), hlen] at hx
  obtain ⟨v', h1, h2⟩ := hl.get hx
  have hn0 : n ≠ 0 := by omega
  have hin : i < n := by omega
  simp only [hn0, if_false, Array.toList_map, Array.toList_range, List.getElem?_map, List.getElem?_range hin, Option.map_some, Option.some.injEq] at hv
  rw [← hv]
  rw [Array.getElem?_toList] at h1
  have := (Array.getElem?_eq_some_iff.1 h1)
  rw [getElem!_pos zv.cells (i % zv.cells.size) this.1, this.2]
  exact h2

theorem newRow_of_VRs (hr : HR P ρ μ h w) {elem : Nat} {info : TypeInfo} (hi : P.info? elem = some info) {l : List AVal} {cs : Array Value} (hl : VRs ρ μ l cs.toList) :
    Ok P ρ μ h w (muNew μ h w cs.size info.size) (newCells h elem false l) (pushObj w (.cells cs elem)) ∧
      muNew μ h w cs.size info.size h.next = some (w.heap.size, cs.size, info.size) := by
  have := Ok.newCells hr hi false (l := l) (cs := cs) (fun i x hx => by
    obtain ⟨v, h1, h2⟩ := hl.get hx
    exact ⟨v, by rw [← Array.getElem?_toList]; exact h1, h2⟩)
  exact ⟨this.1, this.2.1⟩

theorem info_of_szOf {t : TypeId} {s : Nat} (hs : szOf P t = some s) : ∃ i, P.info? t = some i ∧ i.size = s := by
  unfold szOf at hs
  split at hs
  · rename_i i hi; cases hs; exact ⟨i, hi, rfl⟩
  · cases hs
theorem info_of_zeroOf {t : TypeId} {z : AVal} (hz : zeroOf P t = some z) : ∃ i, P.info? t = some i := by
  unfold zeroOf at hz
  split at hz
  · rename_i i hi; exact ⟨i, hi⟩
  · cases hz

/-- the end of an operation: a value, or none (the model's word for none is the empty tuple) -/
def NextIs (nx : Next) (v : Value) : Prop := nx = .value v ∨ (nx = .skip ∧ v = undef)

theorem copyA_sound {ts : Array TypeId} {ty : TypeId} {d x r : AVal} {d' x' : Value} {h' : AH} (hr : HR P ρ μ h w) (he : copyA P h ts d x = some (r, h')) (hd : VR ρ μ d d') (hx : VR ρ μ x x') :
    ∃ v μ' w', Ok P ρ μ h w μ' h' w' ∧ VR ρ μ' r v ∧ (Builtin.copy_ ts ty #[d', x']).run P w = .ok v w' := by
  unfold copyA at he
  split at he
  · cases he
  rename_i st hst
  split at he
  case h_2 => cases he
  rename_i elem hu
  split at he
  case h_2 => cases he
  rename_i size dl xl hs hdl hxl
  split at he
  · cases he
  rename_i new hnew
  obtain ⟨new', hn1, hn0⟩ := firstA_sound hr hnew hx
  have hn2 := hn0 w rfl
  have hlx := lenOf_sound (P := P) hxl hx w
  split at he
  · cases he; simp only [VR] at hd; subst hd
    simp only [lenOfA, Option.some.injEq] at hdl; subst hdl
    refine ⟨.int .i64 0, μ, w, .refl hr, by simp only [VR], ?_⟩
    simp only [Nat.min_zero] at hn2
    simp [Builtin.copy_, hst, r_under hu, hlx, r_size hs, hn2, goInt]
  · cases he; simp only [VR] at hd; obtain ⟨a, c, rfl⟩ := hd
    simp only [lenOfA, Option.some.injEq] at hdl; subst hdl
    simp only [Nat.min_zero] at hn2 hnew
    have hnil : new' = #[] := by
      have hl : new = [] := by
        unfold firstA at hnew
        split at hnew
        · cases hnew; rfl
        · cases hnew; rfl
        · split at hnew
          · have := (Tr.gets_spec _ _ _ _ hnew).1; exact List.eq_nil_of_length_eq_zero (by omega)
          · cases hnew
        · split at hnew
          · have := (Tr.gets_spec _ _ _ _ hnew).1; exact List.eq_nil_of_length_eq_zero (by omega)
          · cases hnew
        · cases hnew; rfl
        · cases hnew
      rw [hl] at hn1
      have := hn1.nil_inv
      exact Array.ext' (by simpa using this)
    refine ⟨.int .i64 0, μ, w, .refl hr, by simp only [VR], ?_⟩
    simp [Builtin.copy_, hst, r_under hu, hlx, r_size hs, hn2, goInt, hnil, storeCells_nil]
  · split at he
    · rename_i b o len hsl
      obtain ⟨m, c, hm, rfl⟩ := slAt_sound hsl hd
      split at he
      · rename_i e op n cc hc
        split at he
        · rename_i c' hc'
          cases he
          obtain ⟨k1, k2⟩ := Ok.store hr hm hc hc' hn1
          have hdl' : dl = len := by
            unfold slAt at hsl
            split at hsl <;> cases hsl <;> simp [lenOfA] at hdl <;> exact hdl.symm
          subst hdl'
          refine ⟨.int .i64 (Nat.min xl dl : Nat), μ, _, k1, by simp only [VR], ?_⟩
          simp [Builtin.copy_, hst, r_under hu, hlx, r_size hs, hn2, goInt, k2]
        · cases he
      · cases he
    · cases he

theorem wrap_small (k : IntKind) {n : Nat} (hn : n < limit k) : k.wrap (n : Int) = n := by
  have h1 := wrapA_eq k (Int.ofNat n)
  unfold wrapA at h1
  have hb : Nat.blt n (limit k) = true := Nat.ble_eq_true_of_le hn
  simp only [hb] at h1
  injection h1 with _ h2
  exact h2.symm

theorem makeSliceA_sound {t : TypeId} {l c r : AVal} {l' c' : Value} {h' : AH} (hr : HR P ρ μ h w) (he : makeSliceA P h t l c = some (r, h')) (hl : VR ρ μ l l') (hc : VR ρ μ c c') :
    ∃ v μ' w', Ok P ρ μ h w μ' h' w' ∧ VR ρ μ' r v ∧ (Instr.makeSlice t l' c').run P w = .ok v w' := by
  unfold makeSliceA at he
  split at he
  case h_2 => cases he
  rename_i e ln cn hu hln hcn
  obtain ⟨kl, rfl⟩ := natA_sound hln hl
  obtain ⟨kc, rfl⟩ := natA_sound hcn hc
  split at he
  case h_2 => cases he
  rename_i info z hi hz
  split at he
  case h_2 => cases he
  rename_i hb
  obtain ⟨b1, b2, b3, b4⟩ := and4 hb
  have b1 := ble_le b1; have b2 := blt_lt b2; have b3 := blt_lt b3; have b4 := beq_eq b4
  cases he
  obtain ⟨zv, rfl, hzr⟩ := r_zero hz
  rw [ofValue_len] at b4
  have hz0 := zeros_VRs (ρ := ρ) (μ := μ) (zv := zv) (m := cn) (n := cn * info.size) (by rw [b4])
  obtain ⟨k1, k2⟩ := newRow_of_VRs hr hi hz0
  refine ⟨.slice (some ⟨w.heap.size, 0, none⟩) ln cn, _, _, k1, ?_, ?_⟩
  · simp only [VR]; exact ⟨_, k2, rfl⟩
  · have hwl : IntKind.i64.wrap (ln : Int) = ln := wrap_small .i64 (by simp only [limit]; omega)
    have hwc : IntKind.i64.wrap (cn : Int) = cn := wrap_small .i64 (by simp only [limit]; omega)
    have hs : szOf P e = some info.size := by simp [szOf, hi]
    have hbm : ((info.bytes * cn : Nat) : Int) < 1000000 := by rw [Nat.mul_comm] at b2; omega
    rw [Int.natCast_mul] at hbm
    have t1 : ¬ ((cn : Int) < 0) := by omega
    have t2 : ¬ ((info.bytes : Int) * (cn : Int) > 2 ^ 48) := by
      have : (2 : Int) ^ 48 = 281474976710656 := by rfl
      omega
    have t3 : ¬ ((ln : Int) < 0) := by omega
    have t4 : ¬ ((ln : Int) > (cn : Int)) := by omega
    simp only [Instr.makeSlice, Sem.run_bind, r_under hu, Result.andThen_ok, asInt, asIntOf, Sem.run_pure, r_info hi, hwl, hwc]
    simp only [t1, t2, t3, t4, decide_false, Bool.or_self, Bool.false_eq_true, if_false, Sem.run_bind, run_askRoom, Result.andThen_ok, Int.toNat_natCast, r_size hs]
    by_cases h0 : cn * info.size = 0
    · simp [h0, run_newRow]
    · simp [h0, run_newRow, hzr]

/-- bytes of a string, in new memory: the row's end is marked -/
theorem bytes_sound (hr : HR P ρ μ h w) {elem : Nat} {s : ByteArray} (hs : szOf P elem = some 1) :
    ∃ v μ' w', Ok P ρ μ h w μ' (newCells h elem true (cellsOf (s.data.toList.map UInt8.toNat))) w' ∧ VR ρ μ' (.so h.next 0 (s.data.toList.map UInt8.toNat).length 1) v ∧
      (Conv.stringToBytes elem s).run P w = .ok v w' := by
  obtain ⟨info, hi, hsz⟩ := info_of_szOf hs
  have hlen : (s.data.toList.map UInt8.toNat).length = s.size := by rw [List.length_map, Array.length_toList]; rfl
  let nc := Question.cut (.appendCap s.size 0 elem) (w.tape w.drawn (.appendCap s.size 0 elem))
  have hnc : s.size ≤ nc := cut_ge w _ _ elem _
  let cs : Array Value := (s.data.map fun b => Value.int .u8 b.toNat) ++ Array.replicate (nc - s.size) (.int .u8 0)
  have hcs : cs.size = nc := by
    simp only [cs, Array.size_append, Array.size_map, Array.size_replicate]
    have : s.data.size = s.size := rfl
    omega
  let w1 : World := { w with drawn := w.drawn + 1 }
  let w2 : World := (pushObj w1 (.cells cs elem)).freeze ⟨w.heap.size, nc, none⟩ 1
  have hw2 : w2.heap[w.heap.size]? = some (.cells cs elem (nc, nc + 1)) := by
    show ((w.heap.push (.cells cs elem)).modify _ _)[w.heap.size]? = _
    rw [Array.getElem?_modify, if_pos rfl, Array.getElem?_push, if_pos rfl]
    simp
  have hw2o : ∀ c, c < w.heap.size → w2.heap[c]? = w.heap[c]? := by
    intro c hc
    show ((w.heap.push (.cells cs elem)).modify _ _)[c]? = _
    rw [Array.getElem?_modify, if_neg (by simp only; omega), Array.getElem?_push, if_neg (by omega)]
  have hw2s : w2.heap.size = w.heap.size + 1 := by
    show ((w.heap.push (.cells cs elem)).modify _ _).size = _
    rw [Array.size_modify, Array.size_push]
  have hl := cellsOf_VRs (ρ := ρ) (μ := μ) s.data.toList
  obtain ⟨k1, k2⟩ := Ok.new (P := P) (ρ := ρ) hr (o := .cells elem true (cellsOf (s.data.toList.map UInt8.toNat)).length (Tr.puts .lf 0 (cellsOf (s.data.toList.map UInt8.toNat)))) (ob := .cells cs elem (nc, nc + 1))
    cs.size info.size (μ' := muNew μ h w cs.size info.size) rfl (by
      refine ⟨cs, (nc, nc + 1), info, rfl, rfl, hi, rfl, ?_, by intro i hi2; rw [hcs] at hi2; simp only; omega⟩
      intro i x hx
      rcases Tr.get_puts _ _ _ _ _ hx with ⟨_, hx'⟩ | ⟨_, hx'⟩
      · simp only [Nat.sub_zero] at hx'
        obtain ⟨v, h1, h2⟩ := hl.get hx'
        refine ⟨(List.getElem?_eq_some_iff.1 hx').1, v, ?_, VR.mono (muNew_le hr _ _) _ _ h2⟩
        have hlt := (List.getElem?_eq_some_iff.1 h1).1
        simp at hlt
        show ((s.data.map fun b => Value.int .u8 b.toNat) ++ Array.replicate (nc - s.size) (.int .u8 0))[i]? = some v
        rw [Array.getElem?_append_left (by simpa using hlt), ← Array.getElem?_toList, Array.toList_map]
        exact h1
      · cases hx') hw2 hw2o hw2s rfl rfl rfl
  refine ⟨.slice (some ⟨w.heap.size, 0, none⟩) s.size nc, _, w2, k1, ?_, ?_⟩
  · simp only [VR]
    refine ⟨_, nc, k2, hsz, by rw [hlen], by omega, ?_⟩
    simp only [hcs]; omega
  · have hsh : (pushObj w1 (.cells cs elem)).shape? w.heap.size = some (elem, nc) := by
      show (match (w.heap.push (.cells cs elem))[w.heap.size]? with | some (.cells c elem _) => some (elem, c.size) | _ => none) = _
      rw [Array.getElem?_push, if_pos rfl]
      simp only [hcs]
    unfold Conv.stringToBytes
    simp only [Sem.run_bind, run_choose, Question.forced, Bool.false_eq_true, if_false, Result.andThen_ok, run_newRow]
    have hmark : (markStringish ⟨w.heap.size, 0, none⟩).run P (pushObj w1 (.cells cs elem)) = .ok () w2 := by
      unfold markStringish
      simp only [Sem.run_bind, run_shape, Result.andThen_ok, hsh, run_freeze]
      rfl
    show ((markStringish ⟨w.heap.size, 0, none⟩).run P (pushObj w1 (.cells cs elem))).andThen _ = _
    rw [hmark]
    rfl

theorem wrOp_sound (hr : HR P ρ μ h w) {ev : Ev} {evl : Operand → Value} (o : Oper) (hev : ∀ x ∈ o.op.operands.toList, VR ρ μ (ev x) (evl x)) {r : AVal} {h' : AH}
    (he : wrOp P h ev o = some (r, h')) : ∃ v μ' w' nx, Ok P ρ μ h w μ' h' w' ∧ VR ρ μ' r v ∧ NextIs nx v ∧ (execOp evl o).run P w = .ok nx w' := by
  unfold wrOp at he
  split at he
  · rename_i elem ho
    split at he
    · rename_i z hz
      cases he
      obtain ⟨info, hi⟩ := info_of_zeroOf hz
      obtain ⟨zv, rfl, hzr⟩ := r_zero hz
      obtain ⟨k1, k2⟩ := newRow_of_VRs hr hi (ofValue_cells (ρ := ρ) (μ := μ) zv)
      refine ⟨.pointer (some ⟨w.heap.size, 0, none⟩), _, _, _, k1, by simp only [VR]; exact ⟨_, k2, rfl⟩, .inl rfl, ?_⟩
      simp [execOp, ho, Instr.alloc, hzr, newVar, run_newRow]
    · cases he
  · rename_i elem x ho
    rw [ho] at hev
    have hx := hev x (by simp [Op.operands])
    split at he
    · cases he
    · cases he
    · rename_i s hs hn1 hn2
      cases he
      obtain ⟨info, hi, _⟩ := info_of_szOf hs
      obtain ⟨k1, k2⟩ := newRow_of_VRs hr hi (VR.cells hx (fun e => hn1 e) (fun i e => hn2 i e))
      refine ⟨.pointer (some ⟨w.heap.size, 0, none⟩), _, _, _, k1, by simp only [VR]; exact ⟨_, k2, rfl⟩, .inl rfl, ?_⟩
      simp [execOp, ho, Instr.box, newVar, run_newRow]
    · cases he
  · rename_i t len parts ho
    rw [ho] at hev
    split at he
    case h_2 => cases he
    rename_i e hu
    split at he
    case h_2 => cases he
    rename_i z size pl hz hs hpl
    split at he
    case h_2 => cases he
    rename_i l hb hl
    cases he
    obtain ⟨b1, b2⟩ := and2 hb
    have b1 := ble_le b1; have b2 := beq_eq b2
    obtain ⟨info, hi, hsz⟩ := info_of_szOf hs
    obtain ⟨zv, rfl, hzr⟩ := r_zero hz
    rw [ofValue_len] at b2
    have hpl' : pl = fun i => some (i * size, size) := by
      unfold placesA at hpl
      rw [hu] at hpl
      simp only [hs, Option.some.injEq] at hpl
      exact hpl.symm
    subst hpl'
    have hz0 := zeros_VRs (ρ := ρ) (μ := μ) (zv := zv) (m := len) (n := len * size) (by rw [b2])
    obtain ⟨vs', f1, f2⟩ := fill_sound (evl := evl) _ _ _ _ hl (fun p hp => hev p.2 (by simp only [Op.operands, List.mem_map]; exact ⟨p, hp, rfl⟩)) _ hz0
    obtain ⟨k1, k2⟩ := newRow_of_VRs hr hi f1
    refine ⟨.slice (some ⟨w.heap.size, 0, none⟩) len len, _, _, _, k1, by simp only [VR]; exact ⟨_, k2, rfl⟩, .inl rfl, ?_⟩
    have t1 : ¬ (len * size > 2 ^ 24) := by
      have : 2 ^ 24 = 16777216 := by rfl
      omega
    have hrun : (Instr.buildSlice t len (parts.map fun (i, x) => (i, evl x))).run P w = .ok (.slice (some ⟨w.heap.size, 0, none⟩) len len) (pushObj w (.cells vs' e)) := by
      unfold Instr.buildSlice
      simp only [Sem.run_bind, r_under hu, Result.andThen_ok, r_size hs]
      rw [if_neg t1]
      by_cases h0 : len * size = 0
      · simp [h0] at f2 ⊢
        simp [f2, run_newRow]
      · simp [h0] at f2 ⊢
        simp [hzr, f2, run_newRow]
    simp [execOp, ho, hrun]
  · rename_i t a x ho
    rw [ho] at hev
    have ha := hev a (by simp [Op.operands])
    split at he
    · rename_i b off hb
      rw [hb] at ha; simp only [VR] at ha; obtain ⟨m, hm, ha⟩ := ha
      split at he
      · rename_i h2 hst
        cases he
        obtain ⟨w', k1, k2⟩ := astore_sound hr hm hst (hev x (by simp [Op.operands]))
        refine ⟨undef, μ, w', .skip, k1, by simp [VR, undef, VRs], .inr ⟨rfl, rfl⟩, ?_⟩
        simp [execOp, ho, ha, Instr.storeAt, Instr.sureAddr, k2]
      · cases he
    · cases he
  · rename_i s d x ho
    rw [ho] at hev
    have hx := hev x (by simp [Op.operands])
    split at he
    case h_2 => cases he
    rename_i ds e str hs hd hst
    split at he
    · rename_i hu
      split at he
      · rename_i hsz
        cases he
        rw [hst] at hx; simp only [VR] at hx; obtain ⟨b, hx, rfl⟩ := hx
        obtain ⟨v, μ', w', k1, k2, k3⟩ := bytes_sound (s := b) hr hsz
        refine ⟨v, μ', w', _, k1, k2, .inl rfl, ?_⟩
        have : (convert s d (.string b)).run P w = .ok v w' := by
          unfold convert
          simp only [Sem.run_bind, r_under hs, r_under hd, Result.andThen_ok]
          cases ds <;> simp [r_under hu, k3]
        simp [execOp, ho, hx, this]
      · cases he
    · cases he
  · rename_i t ho
    cases he
    obtain ⟨k1, k2, _⟩ := Ok.push (P := P) (ρ := ρ) hr (o := .map [] 0) (ob := .map #[] 0) 0 0 ⟨#[], rfl, rfl⟩
    refine ⟨.map (some w.heap.size), _, _, _, k1, by simp only [VR]; exact ⟨_, k2, rfl⟩, .inl rfl, ?_⟩
    simp [execOp, ho, Instr.makeMap, pushObj]
  · rename_i t l c ho
    rw [ho] at hev
    obtain ⟨v, μ', w', k1, k2, k3⟩ := makeSliceA_sound hr he (hev l (by simp [Op.operands])) (hev c (by simp [Op.operands]))
    exact ⟨v, μ', w', _, k1, k2, .inl rfl, by simp [execOp, ho, k3]⟩
  · rename_i c ho
    rw [ho] at hev
    have hargs : ∀ x ∈ c.args.toList, VR ρ μ (ev x) (evl x) := fun x hx => hev x (by simp only [Op.operands, Call.operands]; simp; right; simpa using hx)
    split at he
    · rename_i hc
      split at he
      · rename_i s x hxs
        obtain ⟨v, μ', w', k1, k2, k3⟩ := appendA_sound (ty := o.type) hr he (hargs s (by rw [hxs]; simp)) (hargs x (by rw [hxs]; simp))
        have e : c.args.map evl = #[evl s, evl x] := by apply Array.ext'; simp [hxs]
        exact ⟨v, μ', w', _, k1, k2, .inl rfl, by simp [execOp, ho, resolve, hc, invoke, builtin, e, k3]⟩
      · cases he
    · rename_i hc
      split at he
      · rename_i d x hxs
        obtain ⟨v, μ', w', k1, k2, k3⟩ := copyA_sound (ty := o.type) hr he (hargs d (by rw [hxs]; simp)) (hargs x (by rw [hxs]; simp))
        have e : c.args.map evl = #[evl d, evl x] := by apply Array.ext'; simp [hxs]
        exact ⟨v, μ', w', _, k1, k2, .inl rfl, by simp [execOp, ho, resolve, hc, invoke, builtin, e, k3]⟩
      · cases he
    · cases he
  · cases he
end
end Go.Ev
