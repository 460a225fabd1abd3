/- '==' : the evaluator's answer is the model's. -/
import Derived.Test.YtcfljlcdhacpdaaGreatEvRd
namespace Go.Ev
section
variable {P : Program} {ρ : Nat → Value} {μ : Mu} {h : AH} {w : World}

theorem eqFields_sound (d k : Nat) (ih : ∀ t x y r, eqA P d t x y = some r → ∀ x' y', VR ρ μ x x' → VR ρ μ y y' → ∀ w : World, (Op.equalIn (d + k) t x' y').run P w = .ok r w)
    (xs ys : List AVal) (xs' ys' : Array Value) (hx : VRs ρ μ xs xs'.toList) (hy : VRs ρ μ ys ys'.toList) :
    ∀ (fs : List Field) (r : Bool), eqA.eqFields P (eqA P d) xs ys fs = some r → ∀ w : World, (Op.eqFields (d + k) xs' ys' fs).run P w = .ok r w := by
  intro fs
  induction fs with
  | nil => intro r he w; simp only [eqA.eqFields, Option.some.injEq] at he; subst he; simp [Op.eqFields]
  | cons f fs ihf =>
    intro r he w
    unfold eqA.eqFields at he
    split at he
    · rename_i hn
      have hn' : f.name = "_" := by simpa using hn
      simp only [Op.eqFields, hn', ne_eq, not_true, if_false]
      exact ihf r he w
    · rename_i hn
      have hn' : f.name ≠ "_" := by simpa using hn
      split at he
      · rename_i a b ha hb
        obtain ⟨a', ha1, ha2⟩ := part_sound hx ha
        obtain ⟨b', hb1, hb2⟩ := part_sound hy hb
        simp only [Op.eqFields, hn', ne_eq, not_false_eq_true, if_true, Sem.run_bind, ha2, hb2, Result.andThen_ok]
        split at he
        · rename_i hab
          rw [ih _ _ _ _ hab _ _ ha1 hb1]
          simp only [Result.andThen_ok, Bool.not_true, Bool.false_eq_true, if_false]
          exact ihf r he w
        · rename_i hab
          cases hr' : eqA P d f.type a b with
          | none => rw [hr'] at he; cases he
          | some q =>
            rw [hr'] at he
            cases he
            cases r with
            | true => exact absurd hr' (by simpa using hab)
            | false =>
              rw [ih _ _ _ _ hr' _ _ ha1 hb1]
              simp
      · cases he

set_option maxHeartbeats 2000000 in
theorem eqA_sound : ∀ (d : Nat) (t : TypeId) (x y : AVal) (r : Bool), eqA P d t x y = some r → ∀ x' y', VR ρ μ x x' → VR ρ μ y y' → ∀ (k : Nat) (w : World),
    (Op.equalIn (d + k) t x' y').run P w = .ok r w := by
  intro d
  induction d with
  | zero => intro t x y r he; simp [eqA] at he
  | succ d ih =>
    intro t x y r he x' y' hx hy k w
    rw [show d + 1 + k = (d + k) + 1 from by omega]
    unfold eqA at he
    split at he
    · rename_i ht; simp only [VR] at hx hy; subst hx hy; cases he; simp [Op.equalIn, r_under ht]
    · rename_i ht
      split at he
      · rename_i hk; simp only [VR] at hx hy; subst hx hy; cases he; simp at hk; simp [Op.equalIn, r_under ht, hk]
        rw [Bool.eq_iff_iff]; simp
      · cases he
    · rename_i ht; simp only [VR] at hx hy; obtain ⟨a, rfl, rfl⟩ := hx; obtain ⟨b, rfl, rfl⟩ := hy; cases he
      rw [run_equalIn_string w _ _ _ _ ht, str_eq]
    · rename_i ht; simp only [VR] at hx hy; subst hx hy; cases he; simp [Op.equalIn, r_under ht]
    · rename_i ht; simp only [VR] at hx hy; obtain ⟨m, _, rfl⟩ := hy; subst hx; cases he; simp [Op.equalIn, r_under ht]
    · rename_i ht; simp only [VR] at hx hy; obtain ⟨m, _, rfl⟩ := hx; subst hy; cases he; simp [Op.equalIn, r_under ht]
    · rename_i e a i b j ht
      split at he
      · rename_i n hs hab
        have := beq_eq hab; subst this
        simp only [VR] at hx hy; obtain ⟨m, hm, rfl⟩ := hx; obtain ⟨m', hm', rfl⟩ := hy
        rw [hm] at hm'; cases hm'
        cases he
        simp [Op.equalIn, r_under ht, r_size hs, sameAddr]
        rw [Bool.eq_iff_iff]; simp [Nat.beq_eq]
      · cases he
    · rename_i ht; simp only [VR] at hx hy; subst hx hy; cases he; simp [Op.equalIn, r_under ht]
    · rename_i ht; simp only [VR] at hx hy; obtain ⟨m, rfl, _⟩ := hy; subst hx; cases he; simp [Op.equalIn, r_under ht]
    · rename_i ht; simp only [VR] at hx hy; obtain ⟨m, rfl, _⟩ := hx; subst hy; cases he; simp [Op.equalIn, r_under ht]
    · rename_i tx vx ty vy ht
      simp only [VR] at hx hy; obtain ⟨x1, rfl, hx1⟩ := hx; obtain ⟨y1, rfl, hy1⟩ := hy
      split at he
      · rename_i hne; cases he
        have : tx ≠ ty := Nat.ne_of_beq_eq_false hne
        simp [Op.equalIn, r_under ht, this]
      · rename_i hne
        have := beq_eq hne; subst this
        split at he
        · rename_i i hi
          split at he
          · rename_i hc
            have := ih _ _ _ _ he _ _ hx1 hy1 k w
            simp [Op.equalIn, r_under ht, r_info hi, hc, this]
          · cases he
        · cases he
    · rename_i fs xs ys ht
      split at he
      · cases he
      · rename_i hst
        simp only [VR] at hx hy; obtain ⟨xs', rfl, hx1⟩ := hx; obtain ⟨ys', rfl, hy1⟩ := hy
        have hf : P.fieldsOf t = fs := by simp [Program.fieldsOf, ht]
        rw [run_equalIn_struct w _ _ _ _ (by rw [hf]; exact ht) hst, hf]
        exact eqFields_sound d k (fun t x y r h x' y' a b w => ih t x y r h x' y' a b k w) _ _ _ _ hx1 hy1 _ _ he w
    · rename_i ht; simp only [VR] at hx hy; subst hx hy; cases he; simp [Op.equalIn, r_under ht]
    · rename_i ht; simp only [VR] at hx hy; obtain ⟨m, _, rfl⟩ := hy; subst hx; cases he; simp [Op.equalIn, r_under ht]
    · rename_i ht; simp only [VR] at hx hy; obtain ⟨m, _, rfl⟩ := hx; subst hy; cases he; simp [Op.equalIn, r_under ht]
    · rename_i ht; simp only [VR] at hx hy; obtain ⟨m, c, _, _, rfl, _⟩ := hy; subst hx; cases he; simp [Op.equalIn, r_under ht]
    · rename_i ht; simp only [VR] at hx hy; obtain ⟨m, c, _, _, rfl, _⟩ := hx; subst hy; cases he; simp [Op.equalIn, r_under ht]
    · rename_i ht; simp only [VR] at hx hy; obtain ⟨m, c, rfl⟩ := hy; subst hx; cases he; simp [Op.equalIn, r_under ht]
    · rename_i ht; simp only [VR] at hx hy; obtain ⟨m, c, rfl⟩ := hx; subst hy; cases he; simp [Op.equalIn, r_under ht]
    · rename_i ht; simp only [VR] at hx hy; subst hx hy; cases he; simp [Op.equalIn, r_under ht]
    · rename_i ht; simp only [VR] at hx hy; obtain ⟨m, _, rfl⟩ := hy; subst hx; cases he; simp [Op.equalIn, r_under ht]
    · rename_i ht; simp only [VR] at hx hy; obtain ⟨m, _, rfl⟩ := hx; subst hy; cases he; simp [Op.equalIn, r_under ht]
    · rename_i ht; simp only [VR] at hx hy; subst hx hy; cases he; simp [Op.equalIn, r_under ht]
    · rename_i ht; simp only [VR] at hx hy; obtain ⟨m, _, _, rfl, _⟩ := hy; subst hx; cases he; simp [Op.equalIn, r_under ht]
    · rename_i ht; simp only [VR] at hx hy; obtain ⟨m, _, _, rfl, _⟩ := hx; subst hy; cases he; simp [Op.equalIn, r_under ht]
    · cases he
end
end Go.Ev
