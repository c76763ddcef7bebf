/- The closed facts of the row SnapshotNobody, each by the kernel alone; no conditions. -/
import Derived.Test.YtikkljdbpckihaaGreatDoorSnLaidOut
import Derived.Test.YtikkljdbpckihaaGreatDoorRows
import Derived.JoinedOf
import Derived.KernelRfl
namespace Go.Proofs.YtikkljdbpckihaaGreatDoor
set_option maxRecDepth 100000
/-- the functions that the law comes to, itself first -/
def clos3 : List FuncId := [3, 4, 7, 26, 8, 27, 30, 57, 13, 9, 11, 28, 55, 37, 10, 12, 29, 56, 88, 143, 144, 196, 195, 197, 145, 146, 198, 199, 281, 147, 18, 36, 63, 91, 64, 92, 151, 15, 5, 16, 31, 58, 17, 32, 59, 89, 148, 149, 138, 187, 60, 90, 99, 155, 150, 200, 61, 33, 34, 62, 35, 19, 20, 38, 39, 65, 40, 41, 42, 21, 43, 66, 93, 94, 22, 44, 67, 95, 97, 154, 96, 152, 201, 153, 186, 266, 202, 282, 288, 283, 368, 284, 351, 352, 285, 369, 370, 423, 286, 287, 289, 290, 23, 45, 68, 98, 46, 69, 24, 47, 48, 70, 49, 71, 100, 156, 157, 203, 291, 292, 371, 293, 294, 372, 373, 424, 295, 296, 297, 298, 158, 137, 50, 72, 101, 14, 6, 25, 51, 73, 102, 159, 160, 204, 205, 207, 206, 299, 164, 208, 209, 300, 210, 74, 75, 103, 105, 104, 106, 107, 108, 161, 211, 212, 215, 302, 374, 213, 214, 301, 216, 303, 304, 76, 77, 109, 162, 163, 165, 217, 305, 306, 307, 53, 85, 118, 119, 120, 121, 123, 122, 125, 126, 124, 84, 114, 168, 218, 309, 310, 377, 425, 460, 461, 462, 481, 494, 495, 482, 497, 512, 522, 523, 534, 536, 537, 496, 511, 463, 483, 498, 499, 500, 501, 513, 524, 316, 390, 391, 437, 474, 487, 488, 476, 490, 503, 514, 504, 505, 506, 515, 475, 489, 502, 477, 491, 376, 378, 426, 464, 465, 466, 484, 308, 375, 219, 311, 312, 379, 427, 381, 380, 428, 382, 429, 467, 430, 468, 485, 469, 470, 486, 471, 220, 221, 313, 383, 431, 367, 422, 384, 385, 222, 314, 386, 315, 387, 432, 434, 433, 472, 388, 436, 435, 473, 389, 115, 116, 169, 223, 117, 170, 171, 224, 225, 317, 318, 392, 393, 438, 440, 480, 493, 507, 508, 516, 517, 518, 509, 510, 519, 520, 525, 535, 521, 526, 527, 528, 529, 530, 531, 532, 533, 321, 439, 320, 394, 447, 448, 449, 450, 451, 319, 479, 492, 478, 441, 442, 443, 444, 445, 446, 52, 78, 110, 166, 79, 111, 80, 81, 82, 112, 167, 83, 113, 54, 86, 128, 127, 172, 180, 238, 329, 181, 239, 337, 327, 179, 396, 355, 398, 267, 189, 269, 356, 357, 414, 415, 330, 270, 173, 230, 328, 399, 273, 359, 140, 190, 271, 257, 348, 412, 411, 349, 255, 254, 347, 272, 358, 274, 174, 226, 322, 395, 227, 323, 324, 325, 397, 452, 228, 326, 229, 193, 276, 277, 279, 366, 365, 421, 278, 360, 361, 364, 420, 459, 416, 362, 417, 418, 419, 363, 194, 280, 142, 191, 275, 192, 129, 130, 175, 231, 331, 232, 132, 176, 234, 233, 332, 333, 400, 453, 454, 455, 401, 456, 184, 256, 334, 335, 336, 235, 141, 177, 236, 178, 237, 131, 133, 182, 240, 241, 242, 338, 402, 243, 244, 339, 403, 245, 340, 404, 246, 341, 247, 342, 405, 248, 343, 406, 407, 457, 249, 344, 408, 250, 251, 345, 409, 252, 346, 410, 458, 87, 134, 183, 253, 136, 135, 185, 258, 259, 350, 260, 261, 353, 354, 413, 262, 263, 264, 265, 139, 188, 268]
theorem closure3 : Tryz.prog.closure 3 = clos3 := by kernel_rfl
theorem fact1 : (Rows.snapshotNobodyRow.wf (OpenSpec.ofChange Rows.snapshotNobodySpec)) = true := by kernel_rfl
theorem fact2 : (laidOutB Tryz.prog) = true := laid_out
theorem fact3 : (mapsRowed Tryz.prog) = true := by kernel_rfl
theorem fact4 : (Tryz.f3.params.all (Tryz.prog.readableRec ·)) = true := by kernel_rfl
theorem fact5 : (namedTie Tryz.prog Rows.snapshotNobodyRow.named Rows.snapshotNobodySpec.vars) = true := by kernel_rfl
theorem fact6 : ((Rows.snapshotNobodyRow.stops == [])) = true := by kernel_rfl
theorem fact7 : ((Tryz.prog.stops == [])) = true := by kernel_rfl
theorem fact8 : ((Rows.snapshotNobodyRow.knobs == [])) = true := by kernel_rfl
theorem fact9 : ((Tryz.prog.stopKnobs == [])) = true := by kernel_rfl
theorem fact10 : ((Rows.snapshotNobodyRow.inPlace == Tryz.prog.inPlace 3)) = true := by unfold Program.inPlace; rw [closure3]; kernel_rfl
theorem fact11 : ((Rows.snapshotNobodyRow.unfollowed == Tryz.prog.unfollowed 3)) = true := by unfold Program.unfollowed; rw [closure3]; kernel_rfl
theorem fact12 : ((Rows.snapshotNobodyRow.recurses == Tryz.prog.recurses 3)) = true := by unfold Program.recurses Program.unfollowed; rw [closure3]; kernel_rfl
theorem fact13 : ((Rows.snapshotNobodyRow.named == Tryz.prog.varsNamed 3)) = true := by unfold Program.varsNamed; rw [closure3]; kernel_rfl
theorem fact14 : ((Rows.snapshotNobodyRow.maps == (Tryz.f3.params.toList ++ Rows.snapshotNobodySpec.plain.varTypes Tryz.prog).any (Tryz.prog.mapsRec ·))) = true := by kernel_rfl
theorem fact15 : ((Rows.snapshotNobodyRow.ifaces == (Tryz.f3.params.toList ++ Rows.snapshotNobodySpec.plain.varTypes Tryz.prog).any (Tryz.prog.ifacesRec ·))) = true := by kernel_rfl
theorem fact16 : ((Rows.snapshotNobodyRow.mapsOut == Tryz.prog.mapsAmong Tryz.f3.resultTypes.toList)) = true := by kernel_rfl
theorem fact17 : ((Rows.snapshotNobodyRow.loops == (Tryz.f3.params.toList ++ Rows.snapshotNobodySpec.plain.varTypes Tryz.prog).any (Tryz.prog.loopsFrom ·))) = true := by kernel_rfl
theorem fact18 : ((Rows.snapshotNobodyRow.wideKeys == (Tryz.f3.params.toList ++ Rows.snapshotNobodySpec.plain.varTypes Tryz.prog ++ Tryz.f3.resultTypes.toList).any (Tryz.prog.wideKeysFrom ·))) = true := by kernel_rfl
theorem fact19 : (Rows.snapshotNobodySpec.vars.all (Tryz.prog.varReadable ·)) = true := by kernel_rfl
theorem fact20 : (Tryz.f3.resultTypes.all (fun t => Tryz.prog.readableRec t && decide (t < Tryz.prog.types.size))) = true := by kernel_rfl
theorem fact21 : ((Rows.snapshotNobodyRow.ifacesOut == Tryz.f3.resultTypes.toList.any (Tryz.prog.ifacesRec ·))) = true := by kernel_rfl
theorem fact22 : ((Rows.snapshotNobodyRow.loopsOut == Tryz.f3.resultTypes.toList.any (Tryz.prog.loopsFrom ·))) = true := by kernel_rfl
theorem fact23 : ((Rows.snapshotNobodyRow.plainKeys == Tryz.prog.plainKeys)) = true := by kernel_rfl
theorem fact24 : (Rows.snapshotNobodyRow.shortTexts.isNone) = true := by kernel_rfl
theorem fact25 : (Tryz.prog.stopsHeard) = true := by kernel_rfl
theorem fact26 : (Tryz.prog.mayEnter) = true := by kernel_rfl
theorem fact27 : ((Rows.snapshotNobodyRow.lifted == Tryz.prog.liftsFinal)) = true := by kernel_rfl
theorem fact28 : ((Tryz.prog.make == some Rows.snapshotNobodyRow.make)) = true := by kernel_rfl
theorem fact29 : ((Rows.snapshotNobodyRow.kinds == (if Rows.snapshotNobodyRow.domain.isEmpty then [] else Tryz.f3.params.toList.map fun t => match Tryz.prog.underlying t with | some (.int k) => some k | _ => none))) = true := by kernel_rfl
theorem fact30 : ((Rows.snapshotNobodyRow.pinned == Rows.snapshotNobodyRow.pinnedBy)) = true := by kernel_rfl
theorem fact31 : ((Rows.snapshotNobodyRow.veiled == (Tryz.f3.params.toList ++ Rows.snapshotNobodySpec.plain.varTypes Tryz.prog ++ Tryz.f3.resultTypes.toList).any (Tryz.prog.veiledRec ·))) = true := by kernel_rfl
theorem fact32 : (Rows.snapshotNobodyRow.veiledFits Tryz.prog Tryz.f3.params.toList (Tryz.f3.params.toList ++ Rows.snapshotNobodySpec.plain.varTypes Tryz.prog ++ Tryz.f3.resultTypes.toList)) = true := by kernel_rfl
theorem closed : joinedFacts Tryz.prog 3 Tryz.f3 Rows.snapshotNobodySpec Rows.snapshotNobodyRow = true := by
  unfold joinedFacts
  simp only [Bool.and_eq_true]
  exact ⟨⟨⟨⟨⟨⟨⟨⟨⟨⟨⟨⟨⟨⟨⟨⟨⟨⟨⟨⟨⟨⟨⟨⟨⟨⟨⟨⟨⟨⟨⟨fact1, fact2⟩, fact3⟩, fact4⟩, fact5⟩, fact6⟩, fact7⟩, fact8⟩, fact9⟩, fact10⟩, fact11⟩, fact12⟩, fact13⟩, fact14⟩, fact15⟩, fact16⟩, fact17⟩, fact18⟩, fact19⟩, fact20⟩, fact21⟩, fact22⟩, fact23⟩, fact24⟩, fact25⟩, fact26⟩, fact27⟩, fact28⟩, fact29⟩, fact30⟩, fact31⟩, fact32⟩
end Go.Proofs.YtikkljdbpckihaaGreatDoor
