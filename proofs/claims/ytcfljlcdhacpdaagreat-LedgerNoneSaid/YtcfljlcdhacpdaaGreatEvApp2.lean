/- append and copy, whole. -/
import Derived.Test.YtcfljlcdhacpdaaGreatEvApp
namespace Go.Ev
section
variable {P : Program} {ρ : Nat → Value} {μ : Mu} {h : AH} {w : World}

theorem storeCells_nil (a : Addr) (w : World) : (storeCells a []).run P w = .ok () w := rfl

/-- a grown row -/
theorem grow_new (hr : HR P ρ μ h w) {elem : Nat} {info : TypeInfo} (hi : P.info? elem = some info) {lo ln : List AVal} {old new rest : Array Value} (ho : VRs ρ μ lo old.toList) (hn : VRs ρ μ ln new.toList)
    {n need nc es : Nat} (hnn : n = need) (hes : es = info.size) (hnc : need ≤ nc) (h1 : old.size + new.size = need * info.size) (h2 : rest.size = (nc - need) * info.size) :
    ∃ μ', Ok P ρ μ h w μ' (newCells h elem true (lo ++ ln)) (pushObj { w with drawn := w.drawn + 1 } (.cells (old ++ new ++ rest) elem)) ∧
      VR ρ μ' (.so h.next 0 n es) (.slice (some ⟨w.heap.size, 0, none⟩) need nc) := by
  have hok1 : Ok P ρ μ h w μ h { w with drawn := w.drawn + 1 } := Ok.same hr rfl rfl rfl rfl
  have hl : ∀ (i : Nat) (x : AVal), (lo ++ ln)[i]? = some x → ∃ v, (old ++ new ++ rest)[i]? = some v ∧ VR ρ μ x v := by
    intro i x hx
    obtain ⟨v, hv, hxv⟩ := (ho.append hn).get hx
    refine ⟨v, ?_, hxv⟩
    have hlt : i < old.size + new.size := by
      have := (List.getElem?_eq_some_iff.1 hv).1
      simpa using this
    rw [← Array.toList_append, Array.getElem?_toList] at hv
    rw [Array.getElem?_append_left (by simpa using hlt)]
    exact hv
  obtain ⟨k1, k2, _⟩ := Ok.newCells hok1.hr hi true hl
  refine ⟨_, hok1.trans k1, ?_⟩
  simp only [VR]
  refine ⟨_, nc, k2, hes.symm, by rw [hnn], by omega, ?_⟩
  subst hes hnn
  simp only [Array.size_append, h1, h2, ← Nat.add_mul, Nat.zero_add]
  rw [show n + (nc - n) = nc by omega]
  exact Nat.le_refl _

theorem appendA_sound {ts : Array TypeId} {ty : TypeId} {s x r : AVal} {s' x' : Value} {h' : AH} (hr : HR P ρ μ h w) (he : appendA P h ts s x = some (r, h')) (hs : VR ρ μ s s') (hx : VR ρ μ x x') :
    ∃ v μ' w', Ok P ρ μ h w μ' h' w' ∧ VR ρ μ' r v ∧ (Builtin.append_ ts ty #[s', x']).run P w = .ok v w' := by
  unfold appendA at he
  split at he
  case h_2 => cases he
  rename_i st xt hst hxt
  split at he
  · cases he
  case h_3 => cases he
  rename_i elem d hni hu hux
  split at he
  case h_2 => cases he
  rename_i info m u hi hm hz
  obtain ⟨zv, hzr, hzs⟩ := zeroLen_spec hi hz
  split at he
  · cases he
  rename_i new hnew
  split at he
  · cases he
  rename_i hlen
  have hlen := beq_eq hlen
  obtain ⟨new', hn1, hn0⟩ := firstA_sound hr hnew hx
  have hn2 := hn0 w rfl
  have hnsz : new'.size = m * info.size := by
    have := hn1.length; simp only [Array.length_toList] at this; omega
  have hlo := fun w => lenOf_sound (P := P) hm hx w
  -- what append comes to
  have hrun : ∀ (base : Option Addr) (len cap : Nat), (cap < len + m → (len + m) * info.bytes < 1000000 ∧ len + m < 1000000) → _ :=
    fun base len cap hsm => run_append (ty := ty) (base := base) (len := len) (cap := cap) hst hxt hu hux hni hi w hlo zv hzr hsm
  have hn2' := hn0 { w with drawn := w.drawn + 1 } rfl
  split at he
  · -- nothing is appended
    have hnew0 : new'.toList = [] := by
      have : new'.size = 0 := by omega
      exact List.eq_nil_of_length_eq_zero (by simpa using this)
    split at he
    · cases he; simp only [VR] at hs; subst hs
      refine ⟨.slice none 0 0, μ, w, .refl hr, by simp only [VR], ?_⟩
      rw [hrun none 0 0 (by omega), if_pos (by omega), hn2]; rfl
    · cases he; simp only [VR] at hs; obtain ⟨a, c, rfl⟩ := hs
      refine ⟨.slice (some a) 0 c, μ, w, .refl hr, by simp only [VR]; exact ⟨a, c, rfl⟩, ?_⟩
      rw [hrun (some a) 0 c (by omega), if_pos (by omega), hn2]
      simp [hnew0, storeCells_nil]
    · rename_i b o len cap
      split at he
      · rename_i hle
        cases he
        have hle := ble_le hle
        have hs' := hs
        simp only [VR] at hs; obtain ⟨bm, _, rfl⟩ := hs
        refine ⟨_, μ, w, .refl hr, hs', ?_⟩
        rw [hrun _ len cap (by omega), if_pos (by omega), hn2]
        simp [hnew0, storeCells_nil]
      · cases he
    · cases he
      have hs' := hs
      simp only [VR] at hs; obtain ⟨bm, c, _, _, rfl, hlc, _⟩ := hs
      refine ⟨_, μ, w, .refl hr, hs', ?_⟩
      rw [hrun _ _ c (by omega), if_pos (by omega), hn2]
      simp [hnew0, storeCells_nil]
    · cases he
  · rename_i hm0
    have hmpos : 0 < m := Nat.pos_of_ne_zero fun e => hm0 e
    split at he
    · -- to nil
      split at he
      · rename_i hb
        cases he
        obtain ⟨b1, b2⟩ := and2 hb
        have b1 := blt_lt b1; have b2 := blt_lt b2
        simp only [VR] at hs; subst hs
        obtain ⟨μ', k1, k2⟩ := grow_new hr hi (lo := []) (old := #[]) .nil hn1 (n := m) (need := 0 + m) (nc := Question.cut (.appendCap (0 + m) 0 elem) (w.tape w.drawn (.appendCap (0 + m) 0 elem))) (by omega) rfl
          (cut_ge w (0 + m) 0 elem _) (by simpa using hnsz)
          (rest := Builtin.zeroCells zv.cells (Question.cut (.appendCap (0 + m) 0 elem) (w.tape w.drawn (.appendCap (0 + m) 0 elem)) - (0 + m))) (by rw [size_zeroCells', hzs])
        refine ⟨_, μ', _, k1, k2, ?_⟩
        rw [hrun none 0 0 (by intro _; rw [Nat.zero_add]; exact ⟨b1, b2⟩), if_neg (by omega)]
        have hfo : (Builtin.firstCells info.size 0 (.slice none 0 0)).run P { w with drawn := w.drawn + 1 } = .ok #[] { w with drawn := w.drawn + 1 } := rfl
        simp only [hfo, Result.andThen_ok, hn2']
      · cases he
    · -- to a slice whose end is known
      rename_i b o len cap
      simp only [VR] at hs; obtain ⟨bm, hbm, rfl⟩ := hs
      split at he
      · rename_i e op sz c hc
        split at he
        · rename_i hle
          have hle := ble_le hle
          split at he
          · rename_i c' hc'
            cases he
            obtain ⟨k1, k2⟩ := Ok.store hr hbm hc hc' hn1
            refine ⟨.slice (some ⟨bm.1, o, none⟩) (len + m) cap, μ, _, k1, by simp only [VR]; exact ⟨bm, hbm, rfl⟩, ?_⟩
            rw [hrun _ len cap (by omega), if_pos hle, hn2]
            simp only [Result.andThen_ok, addr_add, k2]
          · cases he
        · rename_i hle
          have hnle : ¬ len + m ≤ cap := fun e => by rw [Nat.ble_eq_true_of_le e] at hle; cases hle
          split at he
          · rename_i old hold hb
            cases he
            obtain ⟨b1, b2⟩ := and2 hb
            have b1 := blt_lt b1; have b2 := blt_lt b2
            have hok1 : Ok P ρ μ h w μ h { w with drawn := w.drawn + 1 } := Ok.same hr rfl rfl rfl rfl
            obtain ⟨old', ho1, ho2⟩ := loadCells_sound hok1.hr hbm hc hold
            obtain ⟨hol, _⟩ := Tr.gets_spec _ _ _ _ hold
            have hos : old'.length = len * info.size := by rw [← ho1.length]; exact hol
            obtain ⟨μ', k1, k2⟩ := grow_new hr hi (lo := old) (old := old'.toArray) (by simpa using ho1) hn1 (n := len + m) (need := len + m) (nc := Question.cut (.appendCap (len + m) cap elem) (w.tape w.drawn (.appendCap (len + m) cap elem))) rfl rfl
              (cut_ge w _ _ elem _) (by simp [hos, hnsz, Nat.add_mul])
              (rest := Builtin.zeroCells zv.cells (Question.cut (.appendCap (len + m) cap elem) (w.tape w.drawn (.appendCap (len + m) cap elem)) - (len + m))) (by rw [size_zeroCells', hzs])
            refine ⟨_, μ', _, k1, k2, ?_⟩
            rw [hrun _ len cap (fun _ => ⟨b1, b2⟩), if_neg hnle]
            have hfo : (Builtin.firstCells info.size len (.slice (some ⟨bm.1, o, none⟩) len cap)).run P { w with drawn := w.drawn + 1 } = .ok old'.toArray { w with drawn := w.drawn + 1 } := ho2 _ rfl
            simp only [hfo, Result.andThen_ok, hn2']
          · cases he
      · cases he
    · -- to a slice of one's own
      rename_i b o len es
      simp only [VR] at hs; obtain ⟨bm, cc, hbm, hes, rfl, hlc, hoc⟩ := hs
      split at he
      · rename_i e op sz c hc
        split at he
        · rename_i old hb hone hold
          cases he
          obtain ⟨hb0, b2⟩ := and2 hb
          obtain ⟨hb0, b1⟩ := and2 hb0
          obtain ⟨hb0, b3⟩ := and2 hb0
          obtain ⟨hb0, b4⟩ := and2 hb0
          obtain ⟨hb0, b5⟩ := and2 hb0
          obtain ⟨_, b6⟩ := and2 hb0
          have b1 := blt_lt b1; have b2 := blt_lt b2
          have b3 := beq_eq b3; have b4 := beq_eq b4; have b5 := beq_eq b5; have b6 := beq_eq b6
          subst b4 b6
          obtain ⟨cs, fr, info', hw, hsz, hi', hes', hget, hfr⟩ := cells_of hr hbm hc
          rw [hi] at hi'; cases hi'
          obtain ⟨old', ho1, ho2⟩ := loadCells_sound hr hbm hc hold
          have hol := (Tr.gets_spec _ _ _ _ hold).1
          have hos : old'.length = sz := by rw [← ho1.length]; exact hol
          have hnone : ∀ x ∈ new, x.one = true := by simpa using hone
          have hput : ∀ i y, (c.puts sz new).get i = some y → (sz ≤ i ∧ new[i - sz]? = some y) ∨ (i < sz ∧ c.get i = some y) := by
            intro i y hy
            rcases Tr.get_puts _ _ _ _ _ hy with h1 | ⟨_, h2⟩
            · exact .inl h1
            · exact .inr ⟨(hget _ _ h2).1, h2⟩
          by_cases hfit : len + m ≤ cc
          · -- in its place
            have hroom : sz + new'.size ≤ cs.size := by
              rw [hsz, hnsz, b5, ← Nat.add_mul]
              rw [b3] at hoc
              exact Nat.le_trans (Nat.mul_le_mul_right _ hfit) (by omega)
            have hst := run_storeCells_cells (P := P) bm.1 sz new'.toList 0 w
              (by
                intro j hj
                rw [Nat.add_zero, cell_of hw]
                simp at hj
                rw [Array.getElem?_eq_getElem (show sz + j < cs.size by omega)]
                rfl)
              (by
                intro j hj
                simp at hj
                rw [Nat.add_zero]
                have := hfr (sz + j) (by omega)
                simp only [World.frozen?, hw]
                obtain ⟨lo, hi2⟩ := fr
                simp only at this ⊢
                rw [Bool.eq_false_iff]
                intro e; simp at e; exact this ⟨e.1, e.2⟩)
              (by
                intro v hv
                obtain ⟨i, hi2, rfl⟩ := List.getElem_of_mem hv
                have hil : i < new.length := by rw [hn1.length]; exact hi2
                obtain ⟨v', q1, q2⟩ := hn1.get (List.getElem?_eq_getElem hil)
                rw [List.getElem?_eq_getElem hi2] at q1
                cases q1
                exact oneCell_of q2 (hnone _ (List.getElem_mem _)))
            obtain ⟨a1, a2, a3, a4, a5, a6⟩ := setCells_heap bm.1 new'.toList sz w cs e fr hw
            have hok := Ok.consume (P := P) (ρ := ρ) hr (m' := bm) (o := .cells e true (sz + new.length) (Tr.puts c sz new)) (w' := w.setCells bm.1 sz new'.toList) hbm hc (.inl ⟨rfl, a3, a2⟩) a1 a4 a5 a6 (by
              intro μ' hle
              refine ⟨_, fr, info, rfl, by rw [setAll_size]; exact hsz, hi, hes', ?_, by rw [setAll_size]; exact hfr⟩
              intro i y hy
              rcases hput i y hy with ⟨q1, q2⟩ | ⟨q1, q2⟩
              · obtain ⟨v, hv, hxv⟩ := hn1.get q2
                have hlt := (List.getElem?_eq_some_iff.1 hv).1
                have hlt2 := (List.getElem?_eq_some_iff.1 q2).1
                simp at hlt
                refine ⟨by omega, v, ?_, VR.mono hle _ _ hxv⟩
                rw [setAll_get, if_pos ⟨q1, by simp; omega, by omega⟩]
                exact hv
              · obtain ⟨_, v, hv, hxv⟩ := hget _ _ q2
                refine ⟨by omega, v, ?_, VR.mono hle _ _ hxv⟩
                rw [setAll_get, if_neg (by omega)]
                exact hv)
            refine ⟨.slice (some ⟨bm.1, 0, none⟩) (len + m) cc, _, _, hok, ?_, ?_⟩
            · simp only [VR]
              exact ⟨bm, cc, by simp, hes, rfl, hfit, hoc⟩
            · rw [hrun _ len cc (by omega), if_pos hfit, hn2]
              have : (storeCells ⟨bm.1, 0 + len * info.size, none⟩ new'.toList).run P w = .ok () (w.setCells bm.1 sz new'.toList) := by
                rw [Nat.zero_add, ← b5]; exact hst
              simp only [Result.andThen_ok, addr_add, this]
          · -- in a new row
            have hok := Ok.consume (P := P) (ρ := ρ) hr (m' := (w.heap.size, (old'.toArray ++ new' ++ Builtin.zeroCells zv.cells (Question.cut (.appendCap (len + m) cc e) (w.tape w.drawn (.appendCap (len + m) cc e)) - (len + m))).size, info.size))
              (o := .cells e true (sz + new.length) (Tr.puts c sz new))
              (ob := .cells (old'.toArray ++ new' ++ Builtin.zeroCells zv.cells (Question.cut (.appendCap (len + m) cc e) (w.tape w.drawn (.appendCap (len + m) cc e)) - (len + m))) e)
              (w' := pushObj { w with drawn := w.drawn + 1 } (.cells (old'.toArray ++ new' ++ Builtin.zeroCells zv.cells (Question.cut (.appendCap (len + m) cc e) (w.tape w.drawn (.appendCap (len + m) cc e)) - (len + m))) e)) hbm hc
              (.inr ⟨rfl, by show (w.heap.push _).size = _; rw [Array.size_push], fun k hk => by show (w.heap.push _)[k]? = w.heap[k]?; rw [Array.getElem?_push, if_neg (Nat.ne_of_lt hk)]⟩)
              (by show (w.heap.push _)[w.heap.size]? = some _; rw [Array.getElem?_push]; simp) rfl rfl rfl (by
                intro μ' hle
                refine ⟨_, (0, 0), info, rfl, rfl, hi, rfl, ?_, by simp⟩
                intro i y hy
                rcases hput i y hy with ⟨q1, q2⟩ | ⟨q1, q2⟩
                · obtain ⟨v, hv, hxv⟩ := hn1.get q2
                  have hlt := (List.getElem?_eq_some_iff.1 hv).1
                  have hlt2 := (List.getElem?_eq_some_iff.1 q2).1
                  simp at hlt
                  refine ⟨by omega, v, ?_, VR.mono hle _ _ hxv⟩
                  rw [Array.getElem?_append_left (by simp; omega), Array.getElem?_append_right (by simp; omega)]
                  simp only [List.size_toArray, hos]
                  rw [← Array.getElem?_toList]; exact hv
                · have hy2 : old[i]? = some y := by
                    have hlt : i < old.length := by omega
                    have := (Tr.gets_spec _ _ _ _ hold).2 i _ (List.getElem?_eq_getElem hlt)
                    rw [Nat.zero_add, q2] at this
                    rw [List.getElem?_eq_getElem hlt]; exact this.symm
                  obtain ⟨v, hv, hxv⟩ := ho1.get hy2
                  refine ⟨by omega, v, ?_, VR.mono hle _ _ hxv⟩
                  have hlt := (List.getElem?_eq_some_iff.1 hv).1
                  rw [Array.getElem?_append_left (by simp; omega), Array.getElem?_append_left (by simpa using hlt)]
                  simpa using hv)
            refine ⟨.slice (some ⟨w.heap.size, 0, none⟩) (len + m) (Question.cut (.appendCap (len + m) cc e) (w.tape w.drawn (.appendCap (len + m) cc e))), _, _, hok, ?_, ?_⟩
            · simp only [VR]
              refine ⟨_, _, by simp; rfl, b3.symm, rfl, cut_ge w _ _ e _, ?_⟩
              simp only [List.size_toArray, hos, hnsz, size_zeroCells', hzs, b5, b3, ← Nat.add_mul, Nat.zero_add, Array.size_append]
              rw [show len + (m + (Question.cut (.appendCap (len + m) cc e) (w.tape w.drawn (.appendCap (len + m) cc e)) - (len + m))) = Question.cut (.appendCap (len + m) cc e) (w.tape w.drawn (.appendCap (len + m) cc e)) from by
                have := cut_ge w (len + m) cc e (w.tape w.drawn (.appendCap (len + m) cc e)); omega]
              exact Nat.le_refl _
            · rw [hrun _ len cc (fun _ => ⟨b1, b2⟩), if_neg hfit]
              have : (Builtin.firstCells info.size len (.slice (some ⟨bm.1, 0, none⟩) len cc)).run P { w with drawn := w.drawn + 1 } = .ok old'.toArray { w with drawn := w.drawn + 1 } := by
                have := ho2 { w with drawn := w.drawn + 1 } rfl
                rw [b5] at this
                simpa only [Builtin.firstCells] using this
              simp only [this, Result.andThen_ok, hn2']
        · cases he
      · cases he
    · cases he
end
end Go.Ev
