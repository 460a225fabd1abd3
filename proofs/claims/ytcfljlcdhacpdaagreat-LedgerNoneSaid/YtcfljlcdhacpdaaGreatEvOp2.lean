/- Slices, indexes, fields, look-ups, literals: the evaluator's value is the model's. -/
import Derived.Test.YtcfljlcdhacpdaaGreatEvOp1
namespace Go.Ev
section
variable {P : Program} {ρ : Nat → Value} {μ : Mu} {h : AH} {w : World}

def OVR (ρ : Nat → Value) (μ : Mu) : Option AVal → Option Value → Prop
  | none, y => y = none
  | some x, y => ∃ v, y = some v ∧ VR ρ μ x v

theorem natOr_sound {d m : Nat} {x : Option AVal} {y : Option Value} (he : natOr d x = some m) (hx : OVR ρ μ x y) :
    (x = none ∧ y = none ∧ m = d) ∨ ∃ k, y = some (.int k (m : Int)) ∧ x.isSome := by
  cases x with
  | none => simp only [natOr, Option.some.injEq] at he; exact .inl ⟨rfl, hx, he.symm⟩
  | some x =>
    obtain ⟨v, rfl, hv⟩ := hx
    obtain ⟨k, rfl⟩ := natA_sound he hv
    exact .inr ⟨k, rfl, rfl⟩

theorem bounds_sound {isSlice : Bool} {len cap l hh m : Nat} {lo hi mx : Option Value} (w : World)
    (hlo : (lo = none ∧ l = 0) ∨ ∃ k, lo = some (.int k (l : Int))) (hhi : (hi = none ∧ hh = len) ∨ ∃ k, hi = some (.int k (hh : Int)))
    (hmx : (mx = none ∧ m = cap) ∨ ((∃ k, mx = some (.int k (m : Int))) ∧ hi.isSome)) (h1 : l ≤ hh) (h2 : hh ≤ m) (h3 : m ≤ cap) :
    (Instr.sliceBounds isSlice len cap lo hi mx).run P w = .ok (l, hh, m) w := by
  have b : ∀ (k : IntKind) (i y : Nat) (code : BoundsCode), i ≤ y → (Instr.sliceBound (.int k (i : Int)) y code).run P w = .ok i w := fun k i y code hi => by
    simp [Instr.sliceBound, asIntOf, hi]
  rcases hmx with ⟨rfl, rfl⟩ | ⟨⟨km, rfl⟩, hsome⟩
  · rcases hhi with ⟨rfl, rfl⟩ | ⟨kh, rfl⟩ <;> rcases hlo with ⟨rfl, rfl⟩ | ⟨kl, rfl⟩
    · simp [Instr.sliceBounds]
    · simp [Instr.sliceBounds, b _ _ _ _ h1]
    · simp [Instr.sliceBounds, b _ _ _ _ h2]
    · simp [Instr.sliceBounds, b _ _ _ _ h2, b _ _ _ _ h1]
  · rcases hhi with ⟨rfl, rfl⟩ | ⟨kh, rfl⟩
    · simp at hsome
    · rcases hlo with ⟨rfl, rfl⟩ | ⟨kl, rfl⟩
      · simp [Instr.sliceBounds, b _ _ _ _ h3, b _ _ _ _ h2]
      · simp [Instr.sliceBounds, b _ _ _ _ h3, b _ _ _ _ h2, b _ _ _ _ h1]

theorem and4 {a b c d : Bool} (h : (a && b && c && d) = true) : a = true ∧ b = true ∧ c = true ∧ d = true := by
  cases a <;> cases b <;> cases c <;> cases d <;> simp_all
theorem and3 {a b c : Bool} (h : (a && b && c) = true) : a = true ∧ b = true ∧ c = true := by
  cases a <;> cases b <;> cases c <;> simp_all
theorem and2 {a b : Bool} (h : (a && b) = true) : a = true ∧ b = true := by
  cases a <;> cases b <;> simp_all

theorem lo_of {l : Nat} {lo : Option AVal} {lo' : Option Value} (he : natOr 0 lo = some l) (h : OVR ρ μ lo lo') : (lo' = none ∧ l = 0) ∨ ∃ k, lo' = some (.int k (l : Int)) := by
  rcases natOr_sound he h with ⟨_, a, b⟩ | ⟨k, a, _⟩
  · exact .inl ⟨a, b⟩
  · exact .inr ⟨k, a⟩
theorem hi_of {d l : Nat} {lo : Option AVal} {lo' : Option Value} (he : natOr d lo = some l) (h : OVR ρ μ lo lo') : (lo' = none ∧ l = d) ∨ ∃ k, lo' = some (.int k (l : Int)) := by
  rcases natOr_sound he h with ⟨_, a, b⟩ | ⟨k, a, _⟩
  · exact .inl ⟨a, b⟩
  · exact .inr ⟨k, a⟩

theorem extract_str (b : ByteArray) (l hh : Nat) (h2 : hh ≤ b.size) :
    ((b.data.toList.map UInt8.toNat).take hh).drop l = (b.extract l hh).data.toList.map UInt8.toNat := by
  rw [ByteArray.data_extract, Array.toList_extract, List.extract_eq_take_drop, List.map_take, List.map_drop, List.take_drop]
  by_cases hl : l ≤ hh
  · congr 2
    omega
  · rw [List.drop_eq_nil_of_le (by simp; omega), List.drop_eq_nil_of_le (by simp; omega)]

theorem sliceA_sound {t : TypeId} {x r : AVal} {x' : Value} {lo hi mx : Option AVal} {lo' hi' mx' : Option Value}
    (he : sliceA P t x lo hi mx = some r) (hx : VR ρ μ x x') (hlo : OVR ρ μ lo lo') (hhi : OVR ρ μ hi hi') (hmx : OVR ρ μ mx mx') (w : World) :
    ∃ v, VR ρ μ r v ∧ (Instr.sliceAt t x' lo' hi' mx').run P w = .ok v w := by
  unfold sliceA at he
  split at he
  · -- a string
    rename_i l s hl hu
    simp only [VR] at hx; obtain ⟨b, rfl, rfl⟩ := hx
    split at he
    · rename_i hh hhh
      split at he
      · rename_i hb
        cases he
        obtain ⟨h1, h2⟩ := and2 hb
        have h1 := ble_le h1; have h2 := ble_le h2
        have hsz : (b.data.toList.map UInt8.toNat).length = b.size := by rw [List.length_map, Array.length_toList]; rfl
        rw [hsz] at h2
        have hmx0 : mx' = none := hmx
        subst hmx0
        have hb := bounds_sound (P := P) (isSlice := false) (len := b.size) (cap := b.size) (m := b.size) (mx := none) w (lo_of hl hlo)
          (by have := hi_of hhh hhi; rwa [hsz] at this) (.inl ⟨rfl, rfl⟩) h1 h2 (Nat.le_refl _)
        refine ⟨.string (b.extract l hh), ?_, ?_⟩
        · simp only [VR]; exact ⟨_, rfl, extract_str b l hh h2⟩
        · simp [Instr.sliceAt, r_under hu, Instr.slice, hb]
      · cases he
    · cases he
  · -- nil
    rename_i e hl hu
    simp only [VR] at hx; subst hx
    split at he
    · rename_i n hh hs
      cases he
      have hmx0 : mx' = none := hmx
      subst hmx0
      have hb := bounds_sound (P := P) (isSlice := true) (len := 0) (cap := 0) (m := 0) (l := 0) (hh := 0) (mx := none) w (lo_of hl hlo) (hi_of hh hhi) (.inl ⟨rfl, rfl⟩) (Nat.le_refl _) (Nat.zero_le _) (Nat.le_refl _)
      exact ⟨.slice none 0 0, by simp only [VR], by simp [Instr.sliceAt, r_under hu, Instr.slice, hb, r_size hs]⟩
    · cases he
  · rename_i e hl hu
    simp only [VR] at hx; obtain ⟨a, c, rfl⟩ := hx
    split at he
    · rename_i n hh hs
      cases he
      have hmx0 : mx' = none := hmx
      subst hmx0
      have hb := bounds_sound (P := P) (isSlice := true) (len := 0) (cap := c) (m := c) (l := 0) (hh := 0) (mx := none) w (lo_of hl hlo) (hi_of hh hhi) (.inl ⟨rfl, rfl⟩) (Nat.le_refl _) (Nat.zero_le _) (Nat.le_refl _)
      refine ⟨.slice (if c = 0 then some a else some (a.add 0)) 0 c, ?_, by simp [Instr.sliceAt, r_under hu, Instr.slice, hb, r_size hs]⟩
      simp only [VR]
      split <;> exact ⟨_, _, rfl⟩
    · cases he
  · -- a slice whose end is known
    rename_i l e b o len cap hl hu
    simp only [VR] at hx; obtain ⟨m, hm, rfl⟩ := hx
    split at he
    · rename_i size hh mm hs hhh hmm
      split at he
      · rename_i hb
        cases he
        obtain ⟨h1, h2, h3, h4⟩ := and4 hb
        have h1 := ble_le h1; have h2 := ble_le h2; have h3 := ble_le h3
        have hmx1 : (mx' = none ∧ mm = cap) ∨ ((∃ k, mx' = some (.int k (mm : Int))) ∧ hi'.isSome) := by
          rcases natOr_sound hmm hmx with ⟨_, a, b⟩ | ⟨k, a, b⟩
          · exact .inl ⟨a, b⟩
          · refine .inr ⟨⟨k, a⟩, ?_⟩
            cases mx with
            | none => simp at b
            | some _ =>
              cases hi with
              | none => simp at h4
              | some _ => obtain ⟨v, rfl, _⟩ := hhi; rfl
        have hb := bounds_sound (P := P) (isSlice := true) w (lo_of hl hlo) (hi_of hhh hhi) hmx1 h1 h2 h3
        refine ⟨.slice (some ⟨m.1, if mm = l then o else o + l * size, none⟩) (hh - l) (mm - l), ?_, ?_⟩
        · simp only [VR]
          refine ⟨m, hm, ?_⟩
          rcases beq_tf mm l with ⟨e, e2⟩ | ⟨e, e2⟩
          · simp [e2]
          · simp [e, e2]
        · simp only [Instr.sliceAt, Sem.run_bind, r_under hu, Result.andThen_ok, Instr.slice, hb, r_size hs, Sem.run_pure]
          split
          · rfl
          · simp [addr_add]
      · cases he
    · cases he
  · -- a slice whose end is not known
    rename_i l e b o len es hl hu
    simp only [VR] at hx; obtain ⟨m, c, hm, hes, rfl, hlc, hoc⟩ := hx
    split at he
    · rename_i size hh hs hhh
      split at he
      · have hmx0 : mx' = none := hmx
        subst hmx0
        split at he
        · rename_i hb
          obtain ⟨h1, h2, h3⟩ := and3 hb
          have h1 := ble_le h1; have h2 := ble_le h2; have h3 := beq_eq h3
          subst h3
          have hb := bounds_sound (P := P) (isSlice := true) (len := len) (cap := c) (m := c) (mx := none) w (lo_of hl hlo) (hi_of hhh hhi) (.inl ⟨rfl, rfl⟩) h1 (by omega) (Nat.le_refl _)
          have hrun : (Instr.sliceAt t (.slice (some ⟨m.1, o, none⟩) len c) lo' hi' none).run P w =
              .ok (.slice (if c = l then some ⟨m.1, o, none⟩ else some ⟨m.1, o + l * size, none⟩) (hh - l) (c - l)) w := by
            simp only [Instr.sliceAt, Sem.run_bind, r_under hu, Result.andThen_ok, Instr.slice, hb, r_size hs, Sem.run_pure]
            split
            · rfl
            · simp [addr_add]
          refine ⟨_, ?_, hrun⟩
          split at he
          · rename_i hc
            cases he
            obtain ⟨h4, h5⟩ := and2 hc
            have h4 := beq_eq h4
            have : hh - l = 0 := by omega
            simp only [VR]
            rw [this]
            split
            · exact ⟨_, _, rfl⟩
            · exact ⟨_, _, rfl⟩
          · rename_i hc
            cases he
            simp only [VR]
            have hne : ¬ (l = len ∧ 0 < l) := by
              rintro ⟨e1, e2⟩
              subst e1
              have : (Nat.beq l l && Nat.blt 0 l) = true := by simp [Nat.beq_refl, Nat.blt_eq, e2]
              rw [this] at hc; cases hc
            refine ⟨m, c - l, hm, hes, ?_, by omega, ?_⟩
            · by_cases hcl : c = l
              · have : l = 0 := by omega
                subst this
                simp
              · simp [hcl]
            · have : l * size + (c - l) * size = c * size := by rw [← Nat.add_mul]; congr 1; omega
              omega
        · cases he
      · rename_i mv
        split at he
        · rename_i mm hv hmm
          obtain ⟨mv', rfl, hmv'⟩ := hmx
          obtain ⟨km, rfl⟩ := natA_sound hmm hmv'
          split at he
          · rename_i hb
            cases he
            obtain ⟨h1, h2, h3⟩ := and3 hb
            have h1 := ble_le h1; have h2 := ble_le h2; have h3 := ble_le h3
            have hb := bounds_sound (P := P) (isSlice := true) (len := len) (cap := c) (m := mm) (mx := some (.int km (mm : Int))) w (lo_of hl hlo) (hi_of hhh hhi)
              (.inr ⟨⟨km, rfl⟩, by obtain ⟨v, rfl, _⟩ := hhi; rfl⟩) h1 h2 (by omega)
            refine ⟨.slice (some ⟨m.1, if mm = l then o else o + l * size, none⟩) (hh - l) (mm - l), ?_, ?_⟩
            · simp only [VR]
              refine ⟨m, hm, ?_⟩
              rcases beq_tf mm l with ⟨e, e2⟩ | ⟨e, e2⟩
              · simp [e2]
              · simp [e, e2]
            · simp only [Instr.sliceAt, Sem.run_bind, r_under hu, Result.andThen_ok, Instr.slice, hb, r_size hs, Sem.run_pure]
              split
              · rfl
              · simp [addr_add]
          · cases he
        · cases he
    · cases he
  · -- an array
    rename_i l n e b o hl hu
    simp only [VR] at hx; obtain ⟨m, hm, rfl⟩ := hx
    split at he
    · rename_i size hh hs hhh
      have hmx0 : mx' = none := hmx
      subst hmx0
      split at he
      · rename_i hb
        cases he
        obtain ⟨h1, h2⟩ := and2 hb
        have h1 := ble_le h1; have h2 := ble_le h2
        have hb := bounds_sound (P := P) (isSlice := false) (len := n) (cap := n) (m := n) (mx := none) w (lo_of hl hlo) (hi_of hhh hhi) (.inl ⟨rfl, rfl⟩) h1 h2 (Nat.le_refl _)
        refine ⟨.slice (some ⟨m.1, if n = l then o else o + l * size, none⟩) (hh - l) (n - l), ?_, ?_⟩
        · simp only [VR]
          refine ⟨m, hm, ?_⟩
          rcases beq_tf n l with ⟨e, e2⟩ | ⟨e, e2⟩
          · simp [e2]
          · simp [e, e2]
        · simp only [Instr.sliceAt, Sem.run_bind, r_under hu, Result.andThen_ok, Instr.sureAddr, hb, r_size hs, Sem.run_pure]
          split
          · rfl
          · simp [addr_add]
      · cases he
    · cases he
  · cases he

theorem indexAddrA_sound {t : TypeId} {x i r : AVal} {x' i' : Value} (he : indexAddrA P t x i = some r) (hx : VR ρ μ x x') (hi : VR ρ μ i i') (w : World) :
    ∃ v, VR ρ μ r v ∧ (Instr.indexAt t x' i').run P w = .ok v w := by
  unfold indexAddrA at he
  split at he
  · rename_i m len e b o hn hu
    obtain ⟨k, rfl⟩ := natA_sound hn hi
    simp only [VR] at hx; obtain ⟨bm, hm, rfl⟩ := hx
    split at he
    · rename_i s hs hlt
      cases he
      have hlt := blt_lt hlt
      refine ⟨.pointer (some ⟨bm.1, o + m * s, none⟩), by simp only [VR]; exact ⟨bm, hm, rfl⟩, ?_⟩
      simp [Instr.indexAt, asIntOf, r_under hu, Instr.sureAddr, hlt, r_size hs, addr_add]
    · cases he
  · rename_i m e b o len cap hn hu
    obtain ⟨k, rfl⟩ := natA_sound hn hi
    simp only [VR] at hx; obtain ⟨bm, hm, rfl⟩ := hx
    split at he
    · rename_i s hs hlt
      cases he
      have hlt := blt_lt hlt
      refine ⟨.pointer (some ⟨bm.1, o + m * s, none⟩), by simp only [VR]; exact ⟨bm, hm, rfl⟩, ?_⟩
      simp [Instr.indexAt, asIntOf, r_under hu, hlt, r_size hs, addr_add]
    · cases he
  · rename_i m e b o len es hn hu
    obtain ⟨k, rfl⟩ := natA_sound hn hi
    simp only [VR] at hx; obtain ⟨bm, c, hm, _, rfl, _⟩ := hx
    split at he
    · rename_i s hs hlt
      cases he
      have hlt := blt_lt hlt
      refine ⟨.pointer (some ⟨bm.1, o + m * s, none⟩), by simp only [VR]; exact ⟨bm, hm, rfl⟩, ?_⟩
      simp [Instr.indexAt, asIntOf, r_under hu, hlt, r_size hs, addr_add]
    · cases he
  · cases he

theorem indexA_sound {t : TypeId} {x i r : AVal} {x' i' : Value} (he : indexA P t x i = some r) (hx : VR ρ μ x x') (hi : VR ρ μ i i') (w : World) :
    ∃ v, VR ρ μ r v ∧ (Instr.index t x' i').run P w = .ok v w := by
  unfold indexA at he
  split at he
  · rename_i m len e cs hn hu
    obtain ⟨k, rfl⟩ := natA_sound hn hi
    simp only [VR] at hx; obtain ⟨vs, rfl, hvs⟩ := hx
    split at he
    · rename_i s hs hlt
      have hlt := blt_lt hlt
      obtain ⟨v, hv, hrun⟩ := part_sound hvs he
      refine ⟨v, hv, ?_⟩
      simp [Instr.index, asIntOf, r_under hu, hlt, r_size hs, hrun]
    · cases he
  · rename_i m s hn hu
    obtain ⟨k, rfl⟩ := natA_sound hn hi
    simp only [VR] at hx; obtain ⟨b, rfl, rfl⟩ := hx
    split at he
    · rename_i c hc
      cases he
      have hlt : m < b.size := by
        have := (List.getElem?_eq_some_iff.1 hc).1
        rw [List.length_map, Array.length_toList] at this; exact this
      refine ⟨_, by simp only [VR]; rfl, ?_⟩
      rw [run_index_string w t b k m hu]
      have hb : (0 : Int) ≤ (m : Int) ∧ (m : Int) < b.size := ⟨by omega, by omega⟩
      rw [dif_pos hb]
      have e : (b[((m : Int)).toNat]'(by omega)).toNat = c := by
        have h2 := (List.getElem?_eq_some_iff.1 hc).2
        rw [← h2]
        simp
        rfl
      rw [e]
    · cases he
  · cases he

theorem fieldAddrA_sound {s : TypeId} {x r : AVal} {x' : Value} {f : Nat} (he : fieldAddrA P s x f = some r) (hx : VR ρ μ x x') (w : World) :
    ∃ v, VR ρ μ r v ∧ (Instr.fieldAt s x' f).run P w = .ok v w := by
  unfold fieldAddrA at he
  split at he
  · rename_i fs b o hu
    simp only [VR] at hx; obtain ⟨bm, hm, rfl⟩ := hx
    split at he
    · rename_i fd hfd
      split at he
      · rename_i n hs
        cases he
        refine ⟨.pointer (some ⟨bm.1, o + fd.offset, none⟩), by simp only [VR]; exact ⟨bm, hm, rfl⟩, ?_⟩
        simp [Instr.fieldAt, r_under hu, hfd, Instr.sureAddr, fieldPlace, r_size hs, addr_add]
      · cases he
    · cases he
  · cases he
end
end Go.Ev
