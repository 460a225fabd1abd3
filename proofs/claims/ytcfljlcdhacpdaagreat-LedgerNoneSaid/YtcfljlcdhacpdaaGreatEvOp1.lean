/- Conversions, lengths, slices, indexes: the evaluator's value is the model's. -/
import Derived.Test.YtcfljlcdhacpdaaGreatEvBin
import Derived.Laws.BytesArg
import Derived.Laws.Slices
namespace Go.Ev
section
variable {P : Program} {ρ : Nat → Value} {μ : Mu} {h : AH} {w : World}

theorem natA_sound {v : AVal} {m : Nat} {v' : Value} (he : natA v = some m) (hv : VR ρ μ v v') : ∃ k, v' = .int k (m : Int) := by
  unfold natA at he
  split at he
  · split at he
    · rename_i k q _ hq
      cases he
      simp only [VR] at hv
      have hq : 0 ≤ q := by simpa using hq
      exact ⟨k, by rw [hv, Int.toNat_of_nonneg hq]⟩
    · cases he
  · cases he

theorem slAt_sound {x : AVal} {b o len : Nat} {x' : Value} (he : slAt x = some (b, o, len)) (hx : VR ρ μ x x') :
    ∃ m c, μ b = some m ∧ x' = .slice (some ⟨m.1, o, none⟩) len c := by
  unfold slAt at he
  split at he
  · cases he; simp only [VR] at hx; obtain ⟨m, h1, h2⟩ := hx; exact ⟨m, _, h1, h2⟩
  · cases he; simp only [VR] at hx; obtain ⟨m, c, h1, _, h2, _⟩ := hx; exact ⟨m, c, h1, h2⟩
  · cases he

theorem byteCells_sound : ∀ (l : List AVal) (r : List Nat), byteCells l = some r → ∀ vs, VRs ρ μ l vs →
    ∃ ns : List Int, vs = ns.map (Value.int .u8) ∧ r = ns.map fun n => n.toNat % 256 := by
  intro l
  induction l with
  | nil => intro r he vs hv; simp only [byteCells, Option.some.injEq] at he; subst he; rw [hv.nil_inv]; exact ⟨[], rfl, rfl⟩
  | cons x l ih =>
    intro r he vs hv
    obtain ⟨v, ws, rfl, h2, h3⟩ := hv.cons_inv
    unfold byteCells at he
    split at he
    · cases ‹_ :: _ = []›
    · rename_i m l' heq
      cases heq
      split at he
      · rename_i r' hr'
        cases he
        obtain ⟨ns, rfl, rfl⟩ := ih _ hr' _ h3
        simp only [VR] at h2
        exact ⟨m :: ns, by rw [h2]; rfl, rfl⟩
      · cases he
    · cases he

theorem convA_sound {src dst : TypeId} {x r : AVal} {x' : Value} (hr : HR P ρ μ h w) (he : convA P h src dst x = some r) (hx : VR ρ μ x x') :
    ∃ v, VR ρ μ r v ∧ (convert src dst x').run P w = .ok v w := by
  unfold convA at he
  split at he
  · rename_i d k kk m hs hd
    simp only [VR] at hx; subst hx; cases he
    exact ⟨_, by rw [wrapA_eq]; simp only [VR]; rfl, by simp [convert, r_under hs, r_under hd, Conv.intToInt]⟩
  · rename_i hs hd
    simp only [VR] at hx; obtain ⟨b, rfl, rfl⟩ := hx; cases he
    exact ⟨.string b, by simp only [VR]; exact ⟨b, rfl, rfl⟩, by simp [convert, r_under hs, r_under hd]⟩
  · rename_i e hs hd _
    split at he
    · rename_i hu
      split at he
      · cases he; simp only [VR] at hx; subst hx
        exact ⟨.string .empty, by simp only [VR]; exact ⟨_, rfl, rfl⟩, run_convert_bytes_nil w src e hs hu 0 0 dst hd⟩
      · cases he; simp only [VR] at hx; obtain ⟨a, c, rfl⟩ := hx
        refine ⟨.string .empty, by simp only [VR]; exact ⟨_, rfl, rfl⟩, ?_⟩
        rw [run_convert_bytes_string w src dst e _ 0 c hs hu hd, run_bytesToString w a 0 c [] (by simp [loadCells, loadCellsFrom])]
        rfl
      · split at he
        · rename_i b o len hsl
          obtain ⟨m, c, hm, rfl⟩ := slAt_sound hsl hx
          split at he
          · rename_i e' op n cc hc
            split at he
            · rename_i l hl
              split at he
              · rename_i bs hbs
                cases he
                obtain ⟨vs, hvs, hrun⟩ := loadCells_sound hr hm hc hl
                obtain ⟨ns, rfl, rfl⟩ := byteCells_sound _ _ hbs _ hvs
                refine ⟨.string (strOfNums ns), ?_, ?_⟩
                · simp only [VR]
                  refine ⟨_, rfl, ?_⟩
                  rw [strOfNums_data, List.map_map]
                  apply List.map_congr_left
                  intro n _
                  simp
                · rw [run_convert_bytes_string w src dst e _ len c hs hu hd, run_bytesToString w _ len c ns (hrun w rfl), foldl_push_bytes]
                  simp [strOfNums, ByteArray.empty, ByteArray.emptyWithCapacity]
                  rfl
              · cases he
            · cases he
          · cases he
        · cases he
    · cases he
  · cases he

theorem lenA_sound {ts : Array TypeId} {ty : TypeId} {x r : AVal} {x' : Value} (hr : HR P ρ μ h w) (he : lenA P h ts x = some r) (hx : VR ρ μ x x') :
    ∃ v, VR ρ μ r v ∧ (Builtin.len_ ts ty #[x']).run P w = .ok v w := by
  unfold lenA at he
  split at he
  · cases he
  · rename_i t ht
    split at he
    · rename_i hu; simp only [VR] at hx; obtain ⟨b, rfl, rfl⟩ := hx; cases he
      exact ⟨_, by simp only [VR]; rfl, by simp [Builtin.len_, ht, r_under hu, goInt]⟩
    · rename_i n e hu; cases he
      exact ⟨_, by simp only [VR]; rfl, by simp [Builtin.len_, ht, r_under hu, goInt]⟩
    · rename_i arr hu
      split at he
      · rename_i n e hu2; cases he
        exact ⟨_, by simp only [VR]; rfl, by simp [Builtin.len_, ht, r_under hu, r_under hu2, goInt]⟩
      · cases he
    · rename_i hu; simp only [VR] at hx; subst hx; cases he
      exact ⟨_, by simp only [VR]; rfl, by simp [Builtin.len_, ht, r_under hu, goInt]⟩
    · rename_i hu; simp only [VR] at hx; obtain ⟨a, c, rfl⟩ := hx; cases he
      exact ⟨_, by simp only [VR]; rfl, by simp [Builtin.len_, ht, r_under hu, goInt]⟩
    · rename_i hu; simp only [VR] at hx; obtain ⟨a, _, rfl⟩ := hx; cases he
      exact ⟨_, by simp only [VR]; rfl, by simp [Builtin.len_, ht, r_under hu, goInt]⟩
    · rename_i hu; simp only [VR] at hx; obtain ⟨a, c, _, _, rfl, _⟩ := hx; cases he
      exact ⟨_, by simp only [VR]; rfl, by simp [Builtin.len_, ht, r_under hu, goInt]⟩
    · rename_i hu; simp only [VR] at hx; subst hx; cases he
      exact ⟨_, by simp only [VR]; rfl, by simp [Builtin.len_, ht, r_under hu, goInt]⟩
    · rename_i k e b hu; simp only [VR] at hx; obtain ⟨m, hm, rfl⟩ := hx
      split at he
      · rename_i es clk hes
        cases he
        obtain ⟨ob, hw, es', rfl, hes'⟩ := hr.obj _ _ _ hes hm
        have hlen : es.length = es'.size := by
          have : ∀ (l : List AEntry) (r : List MapEntry), ERs ρ μ l r → l.length = r.length := by
            intro l
            induction l with
            | nil => intro r hr; rw [show r = [] from hr]; rfl
            | cons e l ih => intro r hr; obtain ⟨e', r', rfl, _, h3⟩ := hr; simp [ih _ h3]
          simpa using this _ _ hes'
        refine ⟨_, by simp only [VR]; rfl, ?_⟩
        simp [Builtin.len_, ht, r_under hu, goInt, getObj, Sem.run, hw, hlen]
      · cases he
    · cases he

theorem fold_sound (f : AVal → AVal → Option AVal) (g : Value → Value → Sem Value)
    (hf : ∀ x y z x' y', f x y = some z → VR ρ μ x x' → VR ρ μ y y' → ∃ v, VR ρ μ z v ∧ (g x' y').run P w = .ok v w) :
    ∀ (l : List AVal) (x r : AVal) (x' : Value) (l' : List Value), foldA f x l = some r → VR ρ μ x x' → VRs ρ μ l l' → ∃ v, VR ρ μ r v ∧ (l'.foldlM g x').run P w = .ok v w := by
  intro l
  induction l with
  | nil => intro x r x' l' he hx hl; simp only [foldA, Option.some.injEq] at he; subst he; rw [hl.nil_inv]; exact ⟨x', hx, by simp⟩
  | cons y l ih =>
    intro x r x' l' he hx hl
    obtain ⟨y', ws, rfl, h2, h3⟩ := hl.cons_inv
    simp only [foldA] at he
    split at he
    · rename_i z hz
      obtain ⟨v, hv, hrun⟩ := hf _ _ _ _ _ hz hx h2
      obtain ⟨u, hu, hrun2⟩ := ih _ _ _ _ he hv h3
      exact ⟨u, hu, by simp [List.foldlM_cons, hrun, hrun2]⟩
    · cases he

theorem max2_sound (x y z : AVal) (x' y' : Value) (he : max2A x y = some z) (hx : VR ρ μ x x') (hy : VR ρ μ y y') : ∃ v, VR ρ μ z v ∧ (Builtin.max2 x' y').run P w = .ok v w := by
  unfold max2A at he
  split at he
  · simp only [VR] at hx hy; subst hx hy; cases he; exact ⟨_, by simp only [VR]; rfl, by simp [Builtin.max2]⟩
  · cases he
theorem min2_sound (x y z : AVal) (x' y' : Value) (he : min2A x y = some z) (hx : VR ρ μ x x') (hy : VR ρ μ y y') : ∃ v, VR ρ μ z v ∧ (Builtin.min2 x' y').run P w = .ok v w := by
  unfold min2A at he
  split at he
  · simp only [VR] at hx hy; subst hx hy; cases he; exact ⟨_, by simp only [VR]; rfl, by simp [Builtin.min2]⟩
  · cases he
end
end Go.Ev
