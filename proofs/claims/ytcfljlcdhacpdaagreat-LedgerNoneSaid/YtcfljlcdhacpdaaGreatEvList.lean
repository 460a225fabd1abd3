/- A region that is carried out in the text's order. -/
import Derived.Test.YtcfljlcdhacpdaaGreatEvOpY
namespace Go.Ev
section
variable {P : Program} {ρ : Nat → Value} {orc : BinOp → Nat → AVal → Option Bool} {funs : FuncId → Option Func} {exts : FuncId → Option Ext} {rec : Task → St → Option Out} {fi : FI} {st : St}

theorem putT_sound' {μ : Mu} {a a' : Act} {d : Option Tmp} {x : AVal} {v : Value} {T T' : Tr AVal} (he : putT fi T d x = some T') (ht : TR ρ μ fi.nt T a.tmps) (ha : a'.tmps = a.tmps)
    (hx : VR ρ μ x v) : TR ρ μ fi.nt T' (a'.put d v).tmps :=
  putT_sound (st := { st0 with T := T }) he (by rw [ha]; exact ht) hx

theorem tupU {μ : Mu} : VR ρ μ (.tup []) undef := by simp only [VR]; exact ⟨#[], rfl, .nil⟩

/-- what is behind a region's operations -/
def ListOK (P : Program) (ρ : Nat → Value) (fi : FI) (st : St) (ops : Array Oper) (π : List Nat) (out : Out) : Prop :=
  ∀ (μ : Mu) (b : Frame) (a : Act) (w : World) (k : List Item) (cs0 cs : List Frame), FIR μ fi b → StR P ρ μ fi st b a w cs0 cs →
    ∃ μ' a' w' cs' fr, Ok P ρ μ st.h w μ' out.st.h w' ∧ StR P ρ μ' fi out.st b a' w' cs0 cs' ∧ ArrF ρ μ' out.ex b a' k fr ∧
      Steps P (lone (b.atR a (.inRegion ops π :: k)) cs w) (lone fr cs' w')

theorem execList_sound (hp : ProgOK P funs exts) (hg : Good P ρ rec) (horc : OrcOK P ρ orc) (ops : Array Oper) : ∀ (l : List Oper) (i0 : Nat) (st : St) (out : Out),
    ops.toList.drop i0 = l → execList P orc exts rec fi ops l st = some out → ListOK P ρ fi st ops (List.range' i0 l.length) out := by
  intro l
  induction l with
  | nil =>
    intro i0 st out _ he μ b a w k cs0 cs hfi hst
    cases he
    exact ⟨μ, a, w, cs, b.atR a k, .refl hst.hr, hst, rfl, .one stepR_region_end⟩
  | cons o l ih =>
    intro i0 st out hl he μ b a w k cs0 cs hfi hst
    have ho : ops[i0]? = some o := by
      have h1 : (ops.toList.drop i0)[0]? = some o := by rw [hl]; rfl
      rw [List.getElem?_drop] at h1
      simpa using h1
    have hl' : ops.toList.drop (i0 + 1) = l := by
      rw [← List.drop_drop, hl]; rfl
    rw [List.length_cons, List.range'_succ]
    simp only [execList] at he
    split at he
    · rename_i hw
      have hw := wanted_sound hw hst.tr
      split at he
      · rename_i v st1 hop
        obtain ⟨hT, μ1, a1, w1, cs1, v1, hok, hv, ha, hds, hpm, hsteps⟩ := opX_sound hp hg horc hop μ b a w cs0 cs ops i0 (List.range' (i0 + 1) l.length) k hfi (hst.toO o) ho hw
        split at he
        · rename_i T' hput
          rw [hT] at hput
          have hst1 : StR P ρ μ1 fi { st1 with T := T' } b (a1.put o.dst v1) w1 cs0 cs1 :=
            ⟨hok.hr, putT_sound' hput (hst.tr.mono hok.le) ha hv, by rw [put_defers]; exact hds, hpm⟩
          obtain ⟨μ2, a2, w2, cs2, fr, hok2, hst2, harr, hs2⟩ := ih (i0 + 1) _ _ hl' he μ1 b _ w1 k cs0 cs1 (hfi.mono hok.le) hst1
          exact ⟨μ2, a2, w2, cs2, fr, hok.trans hok2, hst2, harr, hsteps.trans hs2⟩
        · cases he
      · rename_i v st1 hop
        cases he
        obtain ⟨hT, hd, hpm, μ1, w1, v1, hok, hv, hsteps⟩ := opX_sound hp hg horc hop μ b a w cs0 cs ops i0 (List.range' (i0 + 1) l.length) k hfi (hst.toO o) ho hw
        refine ⟨μ1, a, w1, cs, _, hok, ⟨hok.hr, by rw [hT]; exact hst.tr.mono hok.le, by rw [hd]; exact hst.dr.mono hok.le, by rw [hpm]; exact hst.pm.mono hok.le⟩, ⟨_, v1, hv, rfl⟩, hsteps⟩
      · cases he
    · rename_i hw
      have hw := wanted_sound hw hst.tr
      split at he
      · rename_i T' hput
        have hst1 : StR P ρ μ fi { st with T := T' } b (a.put o.dst undef) w cs0 cs :=
          ⟨hst.hr, putT_sound' hput hst.tr rfl tupU, by rw [put_defers]; exact hst.dr, hst.pm⟩
        obtain ⟨μ2, a2, w2, cs2, fr, hok2, hst2, harr, hs2⟩ := ih (i0 + 1) _ _ hl' he μ b _ w k cs0 cs hfi hst1
        refine ⟨μ2, a2, w2, cs2, fr, hok2, hst2, harr, .head ?_ hs2⟩
        have := stepR_op_skip (P := P) (b := b) (a := a) (k := k) (cs := cs) (w := w) (ops := ops) (i := i0) (rest := List.range' (i0 + 1) l.length) (by rw [ho]; exact hw)
        rw [ho] at this
        exact this
      · cases he
    · cases he

theorem region_sound (hp : ProgOK P funs exts) (hg : Good P ρ rec) (horc : OrcOK P ρ orc) {id : Nat} {ops : Array Oper} {out : Out} (he : execList P orc exts rec fi ops ops.toList st = some out) :
    RunOK P ρ (fun k => .code (.region id ops false) :: k) fi st out := by
  intro μ b a w k cs0 cs hfi hst
  obtain ⟨μ2, a2, w2, cs2, fr, hok2, hst2, harr, hs2⟩ := execList_sound hp hg horc ops ops.toList 0 st out rfl he μ b a w k cs0 cs hfi hst
  refine ⟨μ2, a2, w2, cs2, fr, hok2, hst2, harr, .head stepR_region ?_⟩
  rw [List.range_eq_range', ← Array.length_toList]
  exact hs2
end
end Go.Ev
