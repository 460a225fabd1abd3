/- LedgerNone: the call itself, by the evaluator. (Over the seat's own Prog; to be renamed into the seat's folder.) -/
import Derived.Test.YtcfljlcdhacpdaaGreatEvFin
import Derived.Laws.Externs
import Derived.Test.YtcfljlcdhacpdaaGreatProg
import Derived.KernelRfl
namespace Go.Proofs.YtcfljlcdhacpdaaGreat
open Go Go.Ev
noncomputable def fB : Func := (Tryz.prog.funcs[426]?).getD default
theorem fB_some : (Tryz.prog.funcs[426]?).isSome = true := by kernel_rfl
theorem fB_at : Tryz.prog.funcs[426]? = some fB := by
  unfold fB
  cases h : Tryz.prog.funcs[426]? with
  | none => have := fB_some; rw [h] at this; cases this
  | some x => rfl
theorem fB_name : (fB.name == "runtime.NumGoroutine") = false := by kernel_rfl
theorem fB_body : fB.body.isNone = true := by kernel_rfl
theorem fB_next : Extern.findNext fB = none := by kernel_rfl
theorem fB_find : Extern.find fB = some Extern.BytealgIndexByte.indexByte := by kernel_rfl
theorem names : (Tryz.prog.funcs.all fun fn => !(fn.name == "runtime.NumGoroutine")) = true := by kernel_rfl
theorem mixedL : Tryz.prog.follows .mixedOrders = true := by kernel_rfl

noncomputable def extsL : FuncId → Option Ext := fun f => match Nat.beq f 426 with | true => some .indexByte | false => none
noncomputable def funsL : FuncId → Option Func := fun f => Tryz.prog.funcs[f]?
noncomputable def rawA (n : Nat) : List AVal := (List.range n).map fun i => AVal.raw i

theorem progOK : ProgOK Tryz.prog funsL extsL where
  funs_ok := fun f fn h => h
  name_ok := fun f fn h => by
    have h1 := names
    rw [Array.all_eq_true_iff_forall_mem] at h1
    have h2 := h1 fn (Array.mem_of_getElem? h)
    simpa using h2
  ext_ok := fun f h args w => by
    unfold extsL at h
    split at h
    · rename_i hb
      have e := Nat.eq_of_beq_eq_true hb
      subst e
      exact run_callFunc_extern fB_at fB_name fB_body fB_next fB_find args w
    · cases h
  mixed := mixedL

theorem ledgerRun : isTrue (go Tryz.prog noOrc funsL extsL 1000000 (.call 3 [.agg (rawA 19), .raw 19]) st0) = true := by kernel_rfl

/-- LedgerNone's call: whatever the 19 cells of its first argument, whatever its second -/
theorem ledgerCalls (cells : Array Value) (hc : cells.size = 19) (x : Value) (w : World) : Calls Tryz.prog 3 #[.agg cells, x] w fun e w' => e = .returned (.bool true) ∧ Frm (fun _ => none) w w' := by
  refine calls_true (ρ := fun i => if i = 19 then x else cells.getD i undef) progOK (orcOK_no _ _) ledgerRun ?_ w
  refine .cons ?_ (.cons ?_ .nil)
  · simp only [VR]
    refine ⟨cells, rfl, ?_⟩
    refine VRs.of_get ?_ ?_
    · simp [rawA, hc]
    · intro i y v h1 h2
      simp only [rawA, List.getElem?_map] at h1
      have hi : i < 19 := by
        have := (List.getElem?_eq_some_iff.1 h2).1
        simpa [hc] using this
      rw [List.getElem?_range hi] at h1
      simp only [Option.map_some, Option.some.injEq] at h1
      subst h1
      simp only [VR]
      rw [if_neg (by omega)]
      simp [Array.getD_eq_getD_getElem?, ← Array.getElem?_toList, h2]
  · simp only [VR]; rfl
end Go.Proofs.YtcfljlcdhacpdaaGreat
