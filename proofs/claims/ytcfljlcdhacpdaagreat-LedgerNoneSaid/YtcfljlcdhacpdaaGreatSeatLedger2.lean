/- LedgerNone: whatever the order and the number, the law answers true, and the arguments read as they did. No condition. -/
import Derived.Test.YtcfljlcdhacpdaaGreatEvLaw
import Derived.Test.YtcfljlcdhacpdaaGreatSeatLedger
import Derived.Test.YtcfljlcdhacpdaaGreatSeatLedgerF
import Derived.Test.YtcfljlcdhacpdaaGreatRows
namespace Go.Proofs.YtcfljlcdhacpdaaGreat
open Go Go.Ev Go.ChangeShapes Go.WideShapes Go.ChangeAt Go.RowKit

theorem own : ownKnob Tryz.prog.godebug = none := by kernel_rfl
theorem pars : (Tryz.f3.params.toList.all fun t => Tryz.prog.readableRec t && decide (t < Tryz.prog.types.size)) = true := by kernel_rfl
theorem cells29 : Nat.beq (Tryz.prog.cellsOf 29) 19 = true := by kernel_rfl

noncomputable def zeroArg (t : TypeId) : Value := match Tryz.prog.info? t with | some i => (match i.zero with | some z => z | none => default) | none => default
noncomputable def zeros : Array Value := #[zeroArg 29, zeroArg 3]

noncomputable def isStruct (t : TypeDesc) : Bool := match t with | .struct _ => true | _ => false
theorem struct29 : ∃ fs, Tryz.prog.underlying 29 = some (.struct fs) := by
  have h : (match Tryz.prog.underlying 29 with | some t => isStruct t | none => false) = true := by kernel_rfl
  cases e : Tryz.prog.underlying 29 with
  | none => rw [e] at h; cases h
  | some t =>
    rw [e] at h
    cases t <;> first | (cases h; done) | exact ⟨_, rfl⟩

set_option maxRecDepth 100000 in
theorem lifted (os : Os) (started : os.Started) (H : Type) (enc : TypeId × Value → H) :
    ReturnsInHanded {} Tryz.checked os 3 .any (Rows.ledgerNoneSpec.pre6 enc Tryz.prog Tryz.f3 Rows.ledgerNoneRow.domain false) (Rows.ledgerNoneSpec.post enc Tryz.prog Tryz.f3 false true false false) := by
  refine returnsInHanded_of_change (C := Tryz.checked) own started (by kernel_rfl) Tryz.func3
    (ChangeSpec.witness6 (enc := enc) (C := Tryz.checked) false ⟨#[], zeros, []⟩ 8 (by kernel_rfl) (by kernel_rfl) (by kernel_rfl) (by kernel_rfl)) ?_
  intro W base args ds gs before hval0 hW hcnd _
  have hval : ∀ (j : Nat) t v, Tryz.f3.params[j]? = some t → args[j]? = some v → Value.okWide Tryz.prog W .any base t v := hval0
  have hW' := hW
  obtain ⟨p, q, hA0, hV, rfl, hfz, hnd⟩ := hW
  have hA : DataW.TrodAll enc Tryz.prog W 0 (fun _ => true) true Tryz.f3.params.toList args.toList ds p := hA0
  rw [Tryz.params3] at hA hval
  obtain ⟨v0, v1, d0, d1, p0, p1, ha, rfl, rfl, h0, h1⟩ := trodAll_two hA
  obtain rfl : args = #[v0, v1] := by cases args; simpa using ha
  have hv0 := hval 0 29 v0 rfl rfl
  obtain ⟨fs, hfs⟩ := struct29
  unfold Value.okWide at hv0
  rw [hfs] at hv0
  obtain ⟨cs, rfl, hsz, _⟩ := hv0
  have hc : cs.size = 19 := by rw [hsz]; exact Nat.eq_of_beq_eq_true cells29
  have hgs : gs = [] := by
    cases gs with
    | nil => rfl
    | cons _ _ => exact hV.elim
  subst hgs
  refine (ledgerCalls cs hc v1 W).mono fun e W' ⟨he, hw⟩ => ?_
  exact ⟨_, he, law_post (tb := 4) jf1 pars (by kernel_rfl) (by kernel_rfl) rfl hW' rfl rfl rfl hw⟩

theorem ledgerNone_holds : Rows.LedgerNoneSaid :=
  OpenClaim.holds_of_wide 3 Tryz.f3 rfl rfl rfl rfl rfl rfl rfl ⟨rfl, rfl, rfl, rfl, rfl⟩ rfl rfl rfl rfl rfl named Tryz.func3 joined inst wrap
    (fun os started H enc _ => lifted os started H enc)
end Go.Proofs.YtcfljlcdhacpdaaGreat
