/- Two-place operations: the evaluator's value is the model's. -/
import Derived.Test.YtcfljlcdhacpdaaGreatEvEq
namespace Go.Ev
section
variable {P : Program} {ρ : Nat → Value} {μ : Mu} {h : AH} {w : World} {orc : BinOp → Nat → AVal → Option Bool}

theorem wrapA_eq (k : IntKind) (m : Int) : wrapA k m = .int k (k.wrap m) := by
  cases m with
  | ofNat p =>
    simp only [wrapA]
    split
    · rename_i hp
      have hp := blt_lt hp
      congr 1
      cases k <;> simp [limit] at hp <;> simp [IntKind.wrap, IntKind.bits, IntKind.signed] <;> omega
    · rfl
  | negSucc p => rfl

theorem intOp_sound {op : BinOp} {k : IntKind} {p q : Int} {r : AVal} (he : intOp op k p q = some r) (t : TypeId) (w : World) :
    ∃ v, VR ρ μ r v ∧ (binOp op t (.int k p) (.int k q)).run P w = .ok v w := by
  cases op <;> simp only [intOp, wrapA_eq, Option.some.injEq, reduceCtorEq] at he
  case quo =>
    split at he
    · cases he
    · rename_i h0
      cases he
      have h0 : q ≠ 0 := by simpa using h0
      exact ⟨_, rfl, by simp [binOp, Op.intDiv, h0]⟩
  case rem =>
    split at he
    · cases he
    · rename_i h0
      cases he
      have h0 : q ≠ 0 := by simpa using h0
      exact ⟨_, rfl, by simp [binOp, Op.intDiv, h0]⟩
  all_goals
    subst he
    refine ⟨_, rfl, ?_⟩
    first
      | (simp only [binOp, ne_eq, not_true, if_false, Op.intArith, Sem.run_pure]; done)
      | (simp only [binOp, ne_eq, not_true, if_false, Op.intBits, Sem.run_pure]; done)
      | (simp only [binOp, ne_eq, not_true, if_false, Op.intCmp, Sem.run_pure]; done)
      | (simp only [binOp, ne_eq, not_true, if_false, Op.intCmp, Sem.run_pure]
         congr 2 <;> try rfl
         all_goals (rw [Bool.eq_iff_iff]; simp))

theorem strOp_sound {op : BinOp} {a b : ByteArray} {r : AVal} (he : strOp op (a.data.toList.map UInt8.toNat) (b.data.toList.map UInt8.toNat) = some r) (t : TypeId) (w : World) :
    ∃ v, VR ρ μ r v ∧ (binOp op t (.string a) (.string b)).run P w = .ok v w := by
  cases op <;> simp only [strOp, Option.some.injEq, reduceCtorEq, str_eq, str_lt] at he
  case add =>
    split at he
    · rename_i hl
      have hl := blt_lt hl
      cases he
      refine ⟨.string (a ++ b), ?_, ?_⟩
      · simp only [VR]; exact ⟨_, rfl, by simp [ByteArray.data_append]⟩
      · have : ¬ (((a.size + b.size : Nat) : Int) > IntKind.i64.max) := by
          have e1 : a.size = (a.data.toList.map UInt8.toNat).length := by rw [List.length_map, Array.length_toList]; rfl
          have e2 : b.size = (b.data.toList.map UInt8.toNat).length := by rw [List.length_map, Array.length_toList]; rfl
          have : IntKind.i64.max = 9223372036854775807 := by rfl
          omega
        simp only [binOp, Op.stringOp]
        rw [if_neg this]; rfl
    · cases he
  all_goals
    subst he
    exact ⟨_, rfl, by simp [binOp, Op.stringOp]⟩

theorem VR_int {a : AVal} {k : IntKind} {m : Int} (hv : VR ρ μ a (.int k m)) : a = .int k m ∨ a = .undef ∨ ∃ i, a = .raw i := by
  cases a <;> simp [VR] at hv ⊢ <;> simp_all
theorem VR_string {a : AVal} {s : ByteArray} (hv : VR ρ μ a (.string s)) : a = .str (s.data.toList.map UInt8.toNat) ∨ a = .undef ∨ ∃ i, a = .raw i := by
  cases a <;> simp [VR] at hv ⊢ <;> simp_all
theorem VR_float {a : AVal} {k : FloatKind} {m : Nat} (hv : VR ρ μ a (.float k m)) : a = .undef ∨ ∃ i, a = .raw i := by
  cases a <;> simp [VR] at hv ⊢
theorem VR_complex {a : AVal} {k : FloatKind} {m n : Nat} (hv : VR ρ μ a (.complex k m n)) : a = .undef ∨ ∃ i, a = .raw i := by
  cases a <;> simp [VR] at hv ⊢

theorem eqA_kind {d : Nat} {t : TypeId} {a b : AVal} {r : Bool} (he : eqA P d t a b = some r) : (a ≠ .undef ∧ ∀ i, a ≠ .raw i) ∧ (b ≠ .undef ∧ ∀ i, b ≠ .raw i) := by
  cases d with
  | zero => simp [eqA] at he
  | succ d =>
    unfold eqA at he
    split at he <;> first | (simp; done) | cases he

theorem binOp_eq {a b : Value} (h1 : ∀ k p k' q, a = .int k p → b = .int k' q → False) (h2 : ∀ k p k' q, a = .float k p → b = .float k' q → False)
    (h3 : ∀ k p p' k' q q', a = .complex k p p' → b = .complex k' q q' → False) (h4 : ∀ s u, a = .string s → b = .string u → False) (t : TypeId) :
    binOp .eql t a b = (do pure (.bool (← Op.equal t a b))) ∧ binOp .neq t a b = (do pure (.bool (!(← Op.equal t a b)))) := by
  cases a <;> cases b <;> first
    | exact ⟨rfl, rfl⟩
    | exact (h1 _ _ _ _ rfl rfl).elim
    | exact (h2 _ _ _ _ rfl rfl).elim
    | exact (h3 _ _ _ _ _ _ rfl rfl).elim
    | exact (h4 _ _ rfl rfl).elim

theorem negIf_sound {op : BinOp} {t : TypeId} {a b r : AVal} {a' b' : Value} (he : negIf op (eqA P 50 t a b) = some r) (ha : VR ρ μ a a') (hb : VR ρ μ b b')
    (n1 : ∀ k p k' q, a = .int k p → b = .int k' q → False) (n2 : ∀ s u, a = .str s → b = .str u → False) (w : World) :
    ∃ v, VR ρ μ r v ∧ (binOp op t a' b').run P w = .ok v w := by
  cases hq : eqA P 50 t a b with
  | none => rw [hq] at he; simp [negIf] at he
  | some q =>
    rw [hq] at he
    obtain ⟨⟨ka, ka'⟩, kb, kb'⟩ := eqA_kind hq
    have hrun := eqA_sound (ρ := ρ) (μ := μ) 50 t a b q hq a' b' ha hb 9950 w
    have hb2 := binOp_eq (a := a') (b := b')
      (fun k p k' q e1 e2 => by
        subst e1 e2
        rcases VR_int ha with e | e | ⟨i, e⟩
        · rcases VR_int hb with e' | e' | ⟨i, e'⟩
          · exact n1 _ _ _ _ e e'
          · exact kb e'
          · exact kb' _ e'
        · exact ka e
        · exact ka' _ e)
      (fun k p k' q e1 e2 => by subst e1; rcases VR_float ha with e | ⟨i, e⟩; exact ka e; exact ka' _ e)
      (fun k p p' k' q q' e1 e2 => by subst e1; rcases VR_complex ha with e | ⟨i, e⟩; exact ka e; exact ka' _ e)
      (fun s u e1 e2 => by
        subst e1 e2
        rcases VR_string ha with e | e | ⟨i, e⟩
        · rcases VR_string hb with e' | e' | ⟨i, e'⟩
          · exact n2 _ _ e e'
          · exact kb e'
          · exact kb' _ e'
        · exact ka e
        · exact ka' _ e) t
    have hop : (Op.equal t a' b').run P w = .ok q w := hrun
    cases op <;> simp only [negIf, Option.some.injEq, reduceCtorEq] at he
    · subst he; exact ⟨_, rfl, by rw [hb2.1]; simp [hop]⟩
    · subst he; exact ⟨_, rfl, by rw [hb2.2]; simp [hop]⟩

theorem guard_plain {op : BinOp} {t : TypeId} {x y : Operand} {a b : Value} (h1 : ¬(a = .nilIface ∧ b = .nilIface)) (h2 : ∀ u v, a = .agg u → b = .agg v → False) (w : World) :
    (eqGuard op t x y a b).run P w = .ok () w := by
  cases op <;> first
    | rfl
    | (cases a <;> cases b <;> first
      | rfl
      | exact absurd ⟨rfl, rfl⟩ h1
      | exact (h2 _ _ rfl rfl).elim)

theorem VR_nilIface {a : AVal} (hv : VR ρ μ a .nilIface) : a = .ifc0 ∨ a = .undef ∨ ∃ i, a = .raw i := by
  cases a <;> simp [VR] at hv ⊢
theorem VR_agg {a : AVal} {u : Array Value} (hv : VR ρ μ a (.agg u)) : (∃ l, a = .agg l) ∨ a = .undef ∨ ∃ i, a = .raw i := by
  cases a <;> simp [VR] at hv ⊢

theorem binA_sound {op : BinOp} {t : TypeId} {x y : Operand} {a b r : AVal} {a' b' : Value} (horc : OrcOK P ρ orc) (he : binA P orc op t x y a b = some r)
    (ha : VR ρ μ a a') (hb : VR ρ μ b b') (w : World) : ∃ v, VR ρ μ r v ∧ (eqGuard op t x y a' b').run P w = .ok () w ∧ (binOp op t a' b').run P w = .ok v w := by
  unfold binA at he
  split at he
  · rename_i k p k' q
    simp only [VR] at ha hb; subst ha hb
    have hg := guard_plain (P := P) (op := op) (t := t) (x := x) (y := y) (a := .int k p) (b := .int k' q) (by simp) (by simp) w
    split at he
    · split at he
      · cases he
        rename_i q
        refine ⟨_, by rw [wrapA_eq]; simp only [VR]; rfl, hg, ?_⟩
        have : ¬ ((q : Int) < 0) := by omega
        simp [binOp, Op.shift, this]
      · cases he
    · split at he
      · cases he
        rename_i q
        refine ⟨_, by simp only [VR]; rfl, hg, ?_⟩
        have : ¬ ((q : Int) < 0) := by omega
        simp [binOp, Op.shift, this]
      · cases he
    · split at he
      · rename_i hk
        have hk : k = k' := by simpa using hk
        subst hk
        obtain ⟨v, h1, h2⟩ := intOp_sound (P := P) (ρ := ρ) (μ := μ) he t w
        exact ⟨v, h1, hg, h2⟩
      · cases he
  · simp only [VR] at ha hb; obtain ⟨s, rfl, rfl⟩ := ha; obtain ⟨u, rfl, rfl⟩ := hb
    obtain ⟨v, h1, h2⟩ := strOp_sound (P := P) (ρ := ρ) (μ := μ) he t w
    exact ⟨v, h1, guard_plain (by simp) (by simp) w, h2⟩
  · rename_i i c hn
    split at he
    · rename_i r' hr'
      cases he
      simp only [VR] at ha; subst ha
      obtain ⟨h1, h2⟩ := horc _ _ _ _ μ _ hr' hb t x y w
      exact ⟨_, rfl, h1, h2⟩
    · cases he
  · have n1 : ∀ k p k' q, a = .int k p → b = .int k' q → False := by assumption
    have n2 : ∀ s u, a = .str s → b = .str u → False := by assumption
    unfold eqlA at he
    split at he
    · split at he
      · cases he
      · rename_i hc
        obtain ⟨v, h1, h2⟩ := negIf_sound he ha hb (by simp) (by simp) w
        refine ⟨v, h1, ?_, h2⟩
        simp only [VR] at ha hb; subst ha hb
        cases x <;> cases y <;> first | (simp [isTmp] at hc; done) | (cases op <;> rfl)
    · split at he
      · cases he
      · rename_i hc
        obtain ⟨v, h1, h2⟩ := negIf_sound he ha hb (by simp) (by simp) w
        refine ⟨v, h1, ?_, h2⟩
        simp only [VR] at ha hb; obtain ⟨u, rfl, _⟩ := ha; obtain ⟨u', rfl, _⟩ := hb
        exact run_eqGuard_agg w op t x y u u' hc
    · have m1 : a = .ifc0 → b = .ifc0 → False := by assumption
      have m2 : ∀ l l', a = .agg l → b = .agg l' → False := by assumption
      obtain ⟨v, h1, h2⟩ := negIf_sound he ha hb (fun k p k' q e1 e2 => n1 _ _ _ _ e1 e2) (fun s u e1 e2 => n2 _ _ e1 e2) w
      refine ⟨v, h1, guard_plain ?_ ?_ w, h2⟩
      all_goals
        have hq : ∃ q, eqA P 50 t a b = some q := by
          cases hq : eqA P 50 t a b with
          | none => rw [hq] at he; simp [negIf] at he
          | some q => exact ⟨q, rfl⟩
        obtain ⟨q, hq⟩ := hq
        obtain ⟨⟨ka, ka'⟩, kb, kb'⟩ := eqA_kind hq
      · rintro ⟨e1, e2⟩
        subst e1 e2
        rcases VR_nilIface ha with e | e | ⟨i, e⟩
        · rcases VR_nilIface hb with e' | e' | ⟨i, e'⟩
          · exact m1 e e'
          · exact kb e'
          · exact kb' _ e'
        · exact ka e
        · exact ka' _ e
      · intro u v e1 e2
        subst e1 e2
        rcases VR_agg ha with ⟨l, e⟩ | e | ⟨i, e⟩
        · rcases VR_agg hb with ⟨l', e'⟩ | e' | ⟨i, e'⟩
          · exact m2 _ _ e e'
          · exact kb e'
          · exact kb' _ e'
        · exact ka e
        · exact ka' _ e

theorem unA_sound {op : UnOp} {a r : AVal} {a' : Value} (he : unA op a = some r) (ha : VR ρ μ a a') (w : World) : ∃ v, VR ρ μ r v ∧ (Op.unary op a').run P w = .ok v w := by
  unfold unA at he
  split at he
  · simp only [VR] at ha; subst ha; cases he
    exact ⟨_, by rw [wrapA_eq]; simp only [VR]; rfl, by simp [Op.unary, Op.intArith]⟩
  · simp only [VR] at ha; subst ha; cases he
    exact ⟨_, by rw [wrapA_eq]; simp only [VR]; rfl, by simp [Op.unary, Op.intBits]⟩
  · simp only [VR] at ha; subst ha; cases he
    exact ⟨_, rfl, by simp [Op.unary]⟩
  · cases he
end
end Go.Ev
