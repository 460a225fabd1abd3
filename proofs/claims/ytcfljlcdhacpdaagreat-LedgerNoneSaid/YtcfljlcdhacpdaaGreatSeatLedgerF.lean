/- LedgerNone: the closed facts of the row. -/
import Derived.Test.YtcfljlcdhacpdaaGreatEvLaw
import Derived.Test.YtcfljlcdhacpdaaGreatRows
namespace Go.Proofs.YtcfljlcdhacpdaaGreat
open Go
theorem clo : Tryz.prog.closure 3 = [3, 4, 12, 13, 34, 35, 59, 114, 115, 230, 231, 60, 116, 117, 232, 233, 61, 118, 119, 234, 235, 120, 236, 237, 121, 238, 239, 62, 122, 123, 240, 241, 14, 36, 63, 64, 124, 242, 40, 243, 110, 225, 226, 227, 244, 245, 125, 246, 247, 248, 249, 250, 251, 126, 252, 253, 325, 254, 188, 310, 309, 255, 256, 127, 257, 258, 259, 194, 260, 261, 128, 262, 263, 264, 265, 129, 266, 66, 267, 111, 229, 268, 269, 37, 65, 130, 213, 209, 211, 318, 364, 404, 401, 219, 131, 270, 326, 370, 327, 328, 371, 408, 372, 329, 366, 405, 220, 331, 330, 373, 409, 418, 410, 333, 368, 406, 221, 271, 164, 305, 356, 282, 324, 342, 369, 407, 286, 347, 224, 272, 163, 303, 354, 398, 355, 399, 416, 420, 304, 202, 312, 361, 402, 204, 132, 216, 319, 314, 358, 362, 360, 365, 214, 320, 133, 273, 332, 134, 218, 321, 367, 322, 135, 274, 136, 275, 334, 205, 317, 374, 363, 403, 207, 316, 208, 137, 276, 138, 277, 335, 139, 278, 337, 376, 338, 377, 336, 311, 357, 400, 417, 421, 422, 426, 423, 424, 425, 427, 359, 203, 313, 375, 140, 279, 339, 378, 141, 280, 340, 142, 281, 341, 143, 283, 343, 344, 144, 284, 345, 346, 145, 159, 295, 294, 285, 222, 223, 323, 146, 15, 38, 39, 68, 147, 287, 348, 67, 16, 17, 19, 41, 70, 45, 71, 72, 52, 69, 148, 73, 23, 48, 49, 42, 18, 5, 20, 21, 43, 44, 22, 31, 46, 75, 158, 291, 292, 293, 160, 297, 296, 161, 299, 298, 162, 300, 302, 206, 315, 301, 349, 350, 351, 352, 388, 389, 353, 390, 391, 411, 392, 412, 413, 393, 414, 415, 419, 394, 395, 396, 397, 165, 306, 166, 307, 167, 308, 74, 149, 288, 289, 290, 150, 92, 177, 178, 179, 180, 181, 182, 183, 184, 90, 151, 94, 185, 186, 187, 152, 96, 189, 190, 153, 98, 191, 192, 193, 154, 100, 195, 196, 155, 102, 197, 198, 156, 104, 199, 200, 157, 47, 76, 77, 78, 79, 80, 81, 82, 24, 50, 51, 6, 7, 25, 8, 9, 10, 26, 27, 28, 30, 53, 83, 168, 84, 169, 85, 170, 171, 172, 86, 173, 54, 87, 174, 175, 55, 88, 176, 56, 89, 91, 93, 95, 97, 99, 101, 103, 105, 113, 57, 106, 201, 107, 108, 212, 210, 215, 217, 109, 29, 58, 112, 228, 11, 32, 33] := by kernel_rfl
theorem jf0 : (Rows.ledgerNoneRow.wf (OpenSpec.ofChange Rows.ledgerNoneSpec)) = true := by kernel_rfl
theorem jf1 : (laidOutB Tryz.prog) = true := by kernel_rfl
theorem jf2 : (mapsRowed Tryz.prog) = true := by kernel_rfl
theorem jf3 : (Tryz.f3.params.all (Tryz.prog.readableRec ·)) = true := by kernel_rfl
theorem jf4 : (namedTie Tryz.prog Rows.ledgerNoneRow.named Rows.ledgerNoneSpec.vars) = true := by kernel_rfl
theorem jf5 : ((Rows.ledgerNoneRow.stops == [])) = true := by kernel_rfl
theorem jf6 : ((Tryz.prog.stops == [])) = true := by kernel_rfl
theorem jf7 : ((Rows.ledgerNoneRow.knobs == [])) = true := by kernel_rfl
theorem jf8 : ((Tryz.prog.stopKnobs == [])) = true := by kernel_rfl
theorem jf9 : ((Rows.ledgerNoneRow.inPlace == Tryz.prog.inPlace 3)) = true := by unfold Program.inPlace; rw [clo]; kernel_rfl
theorem jf10 : ((Rows.ledgerNoneRow.unfollowed == Tryz.prog.unfollowed 3)) = true := by unfold Program.unfollowed; rw [clo]; kernel_rfl
theorem jf11 : ((Rows.ledgerNoneRow.recurses == Tryz.prog.recurses 3)) = true := by unfold Program.recurses Program.unfollowed; rw [clo]; kernel_rfl
theorem jf12 : ((Rows.ledgerNoneRow.named == Tryz.prog.varsNamed 3)) = true := by unfold Program.varsNamed; rw [clo]; kernel_rfl
theorem jf13 : ((Rows.ledgerNoneRow.maps == (Tryz.f3.params.toList ++ Rows.ledgerNoneSpec.plain.varTypes Tryz.prog).any (Tryz.prog.mapsRec ·))) = true := by kernel_rfl
theorem jf14 : ((Rows.ledgerNoneRow.ifaces == (Tryz.f3.params.toList ++ Rows.ledgerNoneSpec.plain.varTypes Tryz.prog).any (Tryz.prog.ifacesRec ·))) = true := by kernel_rfl
theorem jf15 : ((Rows.ledgerNoneRow.mapsOut == Tryz.prog.mapsAmong Tryz.f3.resultTypes.toList)) = true := by kernel_rfl
theorem jf16 : ((Rows.ledgerNoneRow.loops == (Tryz.f3.params.toList ++ Rows.ledgerNoneSpec.plain.varTypes Tryz.prog).any (Tryz.prog.loopsFrom ·))) = true := by kernel_rfl
theorem jf17 : ((Rows.ledgerNoneRow.wideKeys == (Tryz.f3.params.toList ++ Rows.ledgerNoneSpec.plain.varTypes Tryz.prog ++ Tryz.f3.resultTypes.toList).any (Tryz.prog.wideKeysFrom ·))) = true := by kernel_rfl
theorem jf18 : (Rows.ledgerNoneSpec.vars.all (Tryz.prog.varReadable ·)) = true := by kernel_rfl
theorem jf19 : (Tryz.f3.resultTypes.all (fun t => Tryz.prog.readableRec t && decide (t < Tryz.prog.types.size))) = true := by kernel_rfl
theorem jf20 : ((Rows.ledgerNoneRow.ifacesOut == Tryz.f3.resultTypes.toList.any (Tryz.prog.ifacesRec ·))) = true := by kernel_rfl
theorem jf21 : ((Rows.ledgerNoneRow.loopsOut == Tryz.f3.resultTypes.toList.any (Tryz.prog.loopsFrom ·))) = true := by kernel_rfl
theorem jf22 : ((Rows.ledgerNoneRow.plainKeys == Tryz.prog.plainKeys)) = true := by kernel_rfl
theorem jf23 : (Rows.ledgerNoneRow.shortTexts.isNone) = true := by kernel_rfl
theorem jf24 : (Tryz.prog.stopsHeard) = true := by kernel_rfl
theorem jf25 : (Tryz.prog.mayEnter) = true := by kernel_rfl
theorem jf26 : ((Rows.ledgerNoneRow.lifted == Tryz.prog.liftsFinal)) = true := by kernel_rfl
theorem jf27 : ((Tryz.prog.make == some Rows.ledgerNoneRow.make)) = true := by kernel_rfl
theorem jf28 : ((Rows.ledgerNoneRow.kinds == (if Rows.ledgerNoneRow.domain.isEmpty then [] else Tryz.f3.params.toList.map fun t => match Tryz.prog.underlying t with | some (.int k) => some k | _ => none))) = true := by kernel_rfl
theorem jf29 : ((Rows.ledgerNoneRow.pinned == Rows.ledgerNoneRow.pinnedBy)) = true := by kernel_rfl
theorem jf30 : ((Rows.ledgerNoneRow.veiled == (Tryz.f3.params.toList ++ Rows.ledgerNoneSpec.plain.varTypes Tryz.prog ++ Tryz.f3.resultTypes.toList).any (Tryz.prog.veiledRec ·))) = true := by kernel_rfl
theorem jf31 : (Rows.ledgerNoneRow.veiledFits Tryz.prog Tryz.f3.params.toList (Tryz.f3.params.toList ++ Rows.ledgerNoneSpec.plain.varTypes Tryz.prog ++ Tryz.f3.resultTypes.toList)) = true := by kernel_rfl
set_option maxRecDepth 100000 in
theorem joined : joinedFacts Tryz.prog 3 Tryz.f3 Rows.ledgerNoneSpec Rows.ledgerNoneRow = true :=
  Go.Ev.joined_mk (P := Tryz.prog) (f := 3) (fn := Tryz.f3) (s := Rows.ledgerNoneSpec) (c := Rows.ledgerNoneRow) jf0 jf1 jf2 jf3 jf4 jf5 jf6 jf7 jf8 jf9 jf10 jf11 jf12 jf13 jf14 jf15 jf16 jf17 jf18 jf19 jf20 jf21 jf22 jf23 jf24 jf25 jf26 jf27 jf28 jf29 jf30 jf31
theorem named : Tryz.prog.funcNamed Rows.ledgerNoneRow.func = some 3 := by kernel_rfl
theorem inst : Tryz.f3.isInstance Tryz.prog Rows.ledgerNoneRow.origin Rows.ledgerNoneRow.targs := of_decide_eq_true (by kernel_rfl)
theorem wrap : Tryz.f3.isWrapper Tryz.prog Rows.ledgerNoneRow.wrapper Rows.ledgerNoneRow.mainSum := by
  unfold Func.isWrapper; first | (rw [if_pos (by decide +kernel)]; kernel_rfl) | (rw [if_neg (by decide +kernel)]; exact ⟨rfl, rfl⟩)
end Go.Proofs.YtcfljlcdhacpdaaGreat
