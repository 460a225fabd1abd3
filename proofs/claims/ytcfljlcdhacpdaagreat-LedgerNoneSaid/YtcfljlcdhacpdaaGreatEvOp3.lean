/- Look-ups, literals; all that only reads. -/
import Derived.Test.YtcfljlcdhacpdaaGreatEvOp2
import Derived.Laws.Tables
namespace Go.Ev
section
variable {P : Program} {ρ : Nat → Value} {μ : Mu} {h : AH} {w : World}

/-- what a search among a map's entries comes to -/
def FoundR (ρ : Nat → Value) (μ : Mu) : Option (Nat × AVal) → Option (Nat × Value) → Prop
  | none, y => y = none
  | some (i, v), y => ∃ v', y = some (i, v') ∧ VR ρ μ v v'

theorem findAsking_sound (kt : TypeId) (k : AVal) (k' : Value) (hk : VR ρ μ k k') : ∀ (es : List AEntry) (i : Nat) (r : Option (Nat × AVal)), findKeyA P kt k es i = some r →
    ∀ es', ERs ρ μ es es' → ∃ r', FoundR ρ μ r r' ∧ (Instr.findAsking kt k' es' i).run P w = .ok r' w := by
  intro es
  induction es with
  | nil => intro i r he es' hes; simp only [findKeyA, Option.some.injEq] at he; subst he; rw [show es' = [] from hes]; exact ⟨none, rfl, by simp [Instr.findAsking]⟩
  | cons e es ih =>
    intro i r he es' hes
    obtain ⟨e', r0, rfl, ⟨hkey, hval, _⟩, h3⟩ := hes
    simp only [findKeyA] at he
    cases hq : eqA P 50 kt k e.key with
    | none => rw [hq] at he; cases he
    | some q =>
      have hrun : (Op.equal kt k' e'.key).run P w = .ok q w := eqA_sound 50 kt k e.key q hq k' e'.key hk hkey 9950 w
      rw [hq] at he
      cases q with
      | true => cases he; exact ⟨some (i, e'.val), ⟨_, rfl, hval⟩, by simp [Instr.findAsking, hrun]⟩
      | false =>
        obtain ⟨r', h1, h2⟩ := ih _ _ he _ h3
        exact ⟨r', h1, by simp [Instr.findAsking, hrun, h2]⟩

theorem sameNow_sound {kt : TypeId} {d : TypeDesc} (hd : P.underlying kt = some d) (hplain : keyOk P kt = true) {a b : AVal} {q : Bool} (hq : eqA P 50 kt a b = some q) {a' b' : Value}
    (ha : VR ρ μ a a') (hb : VR ρ μ b b') : Instr.sameNow d a' b' = some q := by
  have h1 : eqA P 50 kt a b = some q := hq
  unfold eqA at h1
  rw [hd] at h1
  unfold keyOk at hplain
  rw [hd] at hplain
  cases d with
  | int kk =>
    cases a <;> cases b <;> simp only at h1 <;> first | cases h1 | skip
    rename_i k p k' p'
    split at h1
    · rename_i hk
      simp only [VR] at ha hb; subst ha hb; cases h1
      have hk : k = k' := by simpa using hk
      simp only [Instr.sameNow, hk, if_true]
      congr 1
    · cases h1
  | string =>
    cases a <;> cases b <;> simp only at h1 <;> first | cases h1 | skip
    simp only [VR] at ha hb; obtain ⟨x, rfl, rfl⟩ := ha; obtain ⟨y, rfl, rfl⟩ := hb
    simp only [Instr.sameNow, str_eq, beq_toListBytes]
  | bool =>
    cases a <;> cases b <;> simp only at h1 <;> first | cases h1 | skip
    simp only [VR] at ha hb; subst ha hb
    rfl
  | _ => simp at hplain

theorem findNow_sound {kt : TypeId} {d : TypeDesc} (hd : P.underlying kt = some d) (hplain : keyOk P kt = true) (k : AVal) (k' : Value) (hk : VR ρ μ k k') :
    ∀ (es : List AEntry) (i : Nat) (r : Option (Nat × AVal)), findKeyA P kt k es i = some r → ∀ es', ERs ρ μ es es' → ∃ r', FoundR ρ μ r r' ∧ Instr.findNow d k' es' i = some r' := by
  intro es
  induction es with
  | nil => intro i r he es' hes; simp only [findKeyA, Option.some.injEq] at he; subst he; rw [show es' = [] from hes]; exact ⟨none, rfl, rfl⟩
  | cons e es ih =>
    intro i r he es' hes
    obtain ⟨e', r0, rfl, ⟨hkey, hval, _⟩, h3⟩ := hes
    simp only [findKeyA] at he
    cases hq : eqA P 50 kt k e.key with
    | none => rw [hq] at he; cases he
    | some q =>
      have hs := sameNow_sound hd hplain hq hk hkey
      rw [hq] at he
      cases q with
      | true => cases he; exact ⟨some (i, e'.val), ⟨_, rfl, hval⟩, by simp [Instr.findNow, hs]⟩
      | false =>
        obtain ⟨r', h1, h2⟩ := ih _ _ he _ h3
        exact ⟨r', h1, by simp [Instr.findNow, hs, h2]⟩

theorem findKey_sound {kt : TypeId} (hplain : keyOk P kt = true) {k : AVal} {k' : Value} (hk : VR ρ μ k k') {es : List AEntry} {r : Option (Nat × AVal)} (he : findKeyA P kt k es 0 = some r)
    {es' : List MapEntry} (hes : ERs ρ μ es es') (w : World) : ∃ r', FoundR ρ μ r r' ∧ (Instr.findKey kt k' es').run P w = .ok r' w := by
  cases hd : P.underlying kt with
  | none => simp [keyOk, hd] at hplain
  | some d =>
    obtain ⟨r', h1, h2⟩ := findNow_sound hd hplain k k' hk es 0 r he es' hes
    exact ⟨r', h1, by simp [Instr.findKey, r_under hd, h2]⟩

theorem checkKey_plain {kt : TypeId} (hplain : keyOk P kt = true) (b : Bool) (v : Value) (w : World) : (Instr.checkKey b 10000 kt v).run P w = .ok () w := by
  show (Instr.checkKey b (9999 + 1) kt v).run P w = .ok () w
  unfold Instr.checkKey
  unfold keyOk at hplain
  cases hd : P.underlying kt with
  | none => rw [hd] at hplain; cases hplain
  | some d =>
    rw [hd] at hplain
    cases d <;> simp only [Bool.false_eq_true] at hplain <;> simp [r_under hd]

theorem lookupA_sound {t : TypeId} {x k r : AVal} {x' k' : Value} {ok : Bool} (hr : HR P ρ μ h w) (he : lookupA P h t x k ok = some r) (hx : VR ρ μ x x') (hk : VR ρ μ k k') :
    ∃ v, VR ρ μ r v ∧ (Instr.lookup t x' k' ok).run P w = .ok v w := by
  unfold lookupA at he
  split at he
  · rename_i kt et hu
    split at he
    · cases he
    · rename_i hplain
      split at he
      · cases he
      · rename_i es hes
        have key : ∃ es' : Array MapEntry, ERs ρ μ es es'.toList ∧ (Instr.lookup t x' k' ok).run P w = (do
            Instr.checkKey es'.isEmpty 10000 kt k'
            let (v, okk) ← match ← Instr.findKey kt k' es'.toList with
              | some (_, v) => pure (v, true)
              | none => pure (← zeroValue et, false)
            pure (if ok then .tuple #[v, .bool okk] else v) : Sem Value).run P w := by
          split at hes
          · cases hes; simp only [VR] at hx; subst hx
            refine ⟨#[], rfl, ?_⟩
            unfold Instr.lookup
            simp only [Sem.run_bind, r_under hu, Result.andThen_ok, Sem.run_pure]
            rfl
          · rename_i b
            simp only [VR] at hx; obtain ⟨m, hm, rfl⟩ := hx
            split at hes
            · rename_i es0 clk hg
              cases hes
              obtain ⟨ob, hw, es', rfl, hes'⟩ := hr.obj _ _ _ hg hm
              refine ⟨es', hes', ?_⟩
              have hgo : (getObj m.1).run P w = .ok (.map es' clk) w := by simp [getObj, Sem.run, hw]
              unfold Instr.lookup
              simp only [Sem.run_bind, r_under hu, Result.andThen_ok, hgo, Sem.run_pure]
              rfl
            · cases hes
          · cases hes
        obtain ⟨es', hes', hrun0⟩ := key
        split at he
        · rename_i i v hf
          cases he
          obtain ⟨r', ⟨v', rfl, hv'⟩, hfk⟩ := findKey_sound hplain hk hf hes' w
          cases ok with
          | true =>
            refine ⟨.tuple #[v', .bool true], ?_, by rw [hrun0]; simp [checkKey_plain hplain, hfk]⟩
            simp only [VR]
            exact ⟨_, rfl, .cons hv' (.cons (by simp only [VR]) .nil)⟩
          | false => exact ⟨v', hv', by rw [hrun0]; simp [checkKey_plain hplain, hfk]⟩
        · rename_i hf
          obtain ⟨r', h1, hfk⟩ := findKey_sound hplain hk hf hes' w
          rw [show r' = none from h1] at hfk
          split at he
          · rename_i z hz
            cases he
            obtain ⟨zv, rfl, hzr⟩ := r_zero hz
            have hv' := ofValue_VR (ρ := ρ) (μ := μ) zv
            cases ok with
            | true =>
              refine ⟨.tuple #[zv, .bool false], ?_, by rw [hrun0]; simp [checkKey_plain hplain, hfk, hzr]⟩
              simp only [VR]
              exact ⟨_, rfl, .cons hv' (.cons (by simp only [VR]) .nil)⟩
            | false => exact ⟨zv, hv', by rw [hrun0]; simp [checkKey_plain hplain, hfk, hzr]⟩
          · cases he
        · cases he
  · cases he

theorem assertA_sound {t xt : TypeId} {x r : AVal} {x' : Value} {ok : Bool} (he : assertA P t x ok = some r) (hx : VR ρ μ x x') (w : World) :
    ∃ v, VR ρ μ r v ∧ (Instr.typeAssert x' xt t ok).run P w = .ok v w := by
  cases hd : P.underlying t with
  | none => simp [assertA, hd] at he
  | some d =>
    by_cases hi : ∃ ms, d = .interface ms
    · obtain ⟨ms, rfl⟩ := hi; simp [assertA, hd] at he
    · have e1 : ∀ t' v, (Instr.typeAssert (.iface t' v) xt t ok).run P w =
          (if t' = t then (pure (if ok then .tuple #[v, .bool true] else v) : Sem Value) else (do if ok then pure (.tuple #[← zeroValue t, .bool false]) else runtimePanic (.typeAssertion (some xt) (some t') t ""))).run P w := by
        intro t' v
        simp only [Instr.typeAssert, Sem.run_bind, r_under hd, Result.andThen_ok]
        cases d <;> first | rfl | exact absurd ⟨_, rfl⟩ hi
      have e2 : (Instr.typeAssert .nilIface xt t ok).run P w =
          (do if ok then pure (.tuple #[← zeroValue t, .bool false]) else runtimePanic (.typeAssertion (some xt) none t "") : Sem Value).run P w := by
        simp only [Instr.typeAssert, Sem.run_bind, r_under hd, Result.andThen_ok]
        cases d <;> first | rfl | exact absurd ⟨_, rfl⟩ hi
      have he' : assertB P t x ok = some r := by
        rw [← he]
        unfold assertA
        rw [hd]
        cases d <;> first | exact absurd ⟨_, rfl⟩ hi | rfl
      unfold assertB at he'
      have hz : ∀ z, zeroOf P t = some z → ∃ v, VR ρ μ (.tup [z, .bool false]) v ∧ (do pure (.tuple #[← zeroValue t, .bool false]) : Sem Value).run P w = .ok v w := by
        intro z hz
        obtain ⟨zv, rfl, hzr⟩ := r_zero hz
        refine ⟨.tuple #[zv, .bool false], ?_, by simp [hzr]⟩
        simp only [VR]
        exact ⟨_, rfl, .cons (ofValue_VR _) (.cons (by simp only [VR]) .nil)⟩
      cases x with
      | ifc t' v =>
        simp only [VR] at hx; obtain ⟨v', rfl, hv'⟩ := hx
        simp only at he'
        split at he'
        · rename_i ht
          have ht := beq_eq ht
          cases he'
          rw [e1, if_pos ht]
          cases ok with
          | true =>
            refine ⟨.tuple #[v', .bool true], ?_, by simp⟩
            simp only [VR]
            exact ⟨_, rfl, .cons hv' (.cons (by simp only [VR]) .nil)⟩
          | false => exact ⟨v', hv', by simp⟩
        · rename_i ht
          have ht := Nat.ne_of_beq_eq_false ht
          split at he'
          · rename_i z hzz
            cases he'
            obtain ⟨v, h1, h2⟩ := hz z hzz
            exact ⟨v, h1, by rw [e1, if_neg ht]; simpa using h2⟩
          · cases he'
      | ifc0 =>
        simp only [VR] at hx; subst hx
        simp only at he'
        split at he'
        · rename_i z hzz
          cases he'
          obtain ⟨v, h1, h2⟩ := hz z hzz
          exact ⟨v, h1, by rw [e2]; simpa using h2⟩
        · cases he'
      | _ => cases he'

/-- a part laid into a row of cells -/
theorem foldl_set (off : Nat) : ∀ (l : List Value) (j : Nat) (arr : Array Value), off + j + l.length ≤ arr.size →
    ((l.zipIdx j).foldl (fun (cs : Array Value) (p : Value × Nat) => cs.setIfInBounds (off + p.2) p.1) arr).toList = arr.toList.take (off + j) ++ (l ++ arr.toList.drop (off + j + l.length)) := by
  intro l
  induction l with
  | nil => intro j arr _; simp
  | cons x l ih =>
    intro j arr hlen
    simp only [List.zipIdx_cons, List.foldl_cons]
    rw [ih (j + 1) _ (by simp at hlen ⊢; omega)]
    have hlt : off + j < arr.size := by simp at hlen; omega
    have e : (arr.setIfInBounds (off + j) x).toList = arr.toList.set (off + j) x := by simp
    rw [e]
    apply List.ext_getElem?
    intro i
    simp only [List.getElem?_append, List.length_take, List.length_set, List.getElem?_take, List.getElem?_set, List.getElem?_drop, List.length_cons, Array.length_toList]
    simp at hlen
    have e1 : min (off + (j + 1)) arr.size = off + j + 1 := by omega
    have e2 : min (off + j) arr.size = off + j := by omega
    rw [e1, e2]
    by_cases h1 : i < off + j
    · simp [h1, show i < off + j + 1 by omega, show ¬ off + j = i by omega, show i < off + (j + 1) by omega]
    · by_cases h2 : i = off + j
      · subst h2
        simp [hlt, show off + j < off + (j + 1) by omega]
      · obtain ⟨q, rfl⟩ : ∃ q, i = off + j + 1 + q := ⟨i - (off + j + 1), by omega⟩
        simp only [show ¬ off + j + 1 + q < off + j + 1 by omega, show ¬ off + j + 1 + q < off + j by omega, if_false]
        rw [show off + j + 1 + q - (off + j + 1) = q by omega, show off + j + 1 + q - (off + j) = q + 1 by omega]
        simp only [List.getElem?_cons_succ]
        by_cases h3 : q < l.length
        · simp [h3]
        · simp only [h3, if_false]
          rw [show q + 1 - (l.length + 1) = q - l.length by omega]
          simp only [show ¬ (q + 1 < l.length + 1) by omega, if_false]
          rw [show off + (j + 1) + l.length + (q - l.length) = off + j + (l.length + 1) + (q - l.length) by omega]
          simp [show ¬ off + j = off + j + (l.length + 1) + (q - l.length) by omega]

theorem fill_sound {ev : Ev} {evl : Operand → Value} (place : Nat → Option (Nat × Nat)) : ∀ (parts : List (Nat × Operand)) (cells : List AVal) (r : List AVal), fillAll ev place cells parts = some r →
    (∀ p ∈ parts, VR ρ μ (ev p.2) (evl p.2)) → ∀ vs : Array Value, VRs ρ μ cells vs.toList →
    ∃ vs' : Array Value, VRs ρ μ r vs'.toList ∧ Instr.fill place vs (parts.map fun p => (p.1, evl p.2)) = some vs' := by
  intro parts
  induction parts with
  | nil => intro cells r he _ vs hv; simp only [fillAll, Option.some.injEq] at he; subst he; exact ⟨vs, hv, rfl⟩
  | cons p parts ih =>
    obtain ⟨i, x⟩ := p
    intro cells r he hp vs hv
    simp only [fillAll] at he
    split at he
    · cases he
    · rename_i off size hpl
      split at he
      · rename_i hb
        obtain ⟨h1, h2, h3⟩ := and3 hb
        have h1 := beq_eq h1; have h2 := ble_le h2
        have hx := hp (i, x) (by simp)
        simp only at hx
        have hcells := VR.cells hx (by intro e; rw [e] at h3; cases h3) (by intro k e; rw [e] at h3; cases h3)
        have hl := hcells.length
        have hvl := hv.length
        simp only [Array.length_toList] at hl hvl
        have hfill := foldl_set off (evl x).cells.toList 0 vs (by simp; omega)
        obtain ⟨vs', h4, h5⟩ := ih _ _ he (fun q hq => hp q (by simp [hq])) ((evl x).cells.zipIdx.foldl (fun cs p => cs.setIfInBounds (off + p.2) p.1) vs) (by
          rw [← Array.foldl_toList, Array.toList_zipIdx, hfill]
          simp only [fillA, Nat.add_zero]
          have := (hv.take off).append (hcells.append (hv.drop (off + (ev x).cells.length)))
          rw [hl] at this ⊢
          simpa using this)
        refine ⟨vs', h4, ?_⟩
        simp only [List.map_cons, Instr.fill, hpl]
        have c1 : ¬ ((evl x).cells.size ≠ size ∨ off + (evl x).cells.size > vs.size) := by omega
        simp only [Bool.or_eq_true, decide_eq_true_eq] 
        rw [if_neg (by simpa using c1)]
        exact h5
      · cases he
end
end Go.Ev
