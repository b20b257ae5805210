/- The functions of the law as rows. -/
import Derived.Test.YtdmbeajlccebgaaGreatDoorRaiI
import Derived.Test.YtdmbeajlccebgaaGreatDoorRaiShelf
import Derived.Test.YtdmbeajlccebgaaGreatDoorProg
import Derived.KernelRfl
namespace Go.Rai
open Go Go.RowKit Go.Proofs
set_option maxRecDepth 100000
def ttL : List (Nat × TK) := [
  (1, .cell .undef),
  (2, .cell (.int .i64)),
  (3, .cell (.int .i64)),
  (4, .cell .bool),
  (5, .cell (.int .u8)),
  (6, .cell (.int .u8)),
  (7, .struct (.pair (.int .i64) (.pair (.int .i64) (.pair .bool (.pair (.int .u8) .unit)))) [0, 1, 2, 3] [1, 1, 1, 1] true),
  (8, .struct (.pair (.int .i64) (.pair (.int .i64) (.pair .bool (.pair (.int .u8) .unit)))) [0, 1, 2, 3] [1, 1, 1, 1] true),
  (9, .cell .str),
  (10, .cell .str),
  (11, .cell .str),
  (12, .cell (.int .u64)),
  (13, .struct (.pair .str (.pair (.int .u64) .unit)) [0, 1] [1, 1] false),
  (14, .struct (.pair .str (.pair (.int .u64) .unit)) [0, 1] [1, 1] false),
  (15, .cell (.opt (.pair (.opt (.pair (.int .u64) (.pair (.int .u64) (.pair (.int .u32) (.pair (.int .u8) (.pair (.int .u8) (.pair (.int .u8) (.pair (.int .u8) (.pair .undef (.pair (.opt (.pair (.int .u8) .unit)) (.pair (.int .i32) (.pair (.int .i32) .unit)))))))))))) (.pair (.opt (.pair (.int .u64) (.pair (.int .u64) (.pair (.int .u32) (.pair (.int .u8) (.pair (.int .u8) (.pair (.int .u8) (.pair (.int .u8) (.pair .undef (.pair (.opt (.pair (.int .u8) .unit)) (.pair (.int .i32) (.pair (.int .i32) .unit)))))))))))) (.pair (.opt (.pair (.int .u64) (.pair (.int .u64) (.pair (.int .u32) (.pair (.int .u8) (.pair (.int .u8) (.pair (.int .u8) (.pair (.int .u8) (.pair .undef (.pair (.opt (.pair (.int .u8) .unit)) (.pair (.int .i32) (.pair (.int .i32) .unit)))))))))))) (.pair .str .unit)))))),
  (16, .cell .undef),
  (17, .cell (.opt (.pair (.int .u64) (.pair (.int .u64) (.pair (.int .u32) (.pair (.int .u8) (.pair (.int .u8) (.pair (.int .u8) (.pair (.int .u8) (.pair .undef (.pair (.opt (.pair (.int .u8) .unit)) (.pair (.int .i32) (.pair (.int .i32) .unit))))))))))))),
  (18, .struct (.pair (.opt (.pair (.int .u64) (.pair (.int .u64) (.pair (.int .u32) (.pair (.int .u8) (.pair (.int .u8) (.pair (.int .u8) (.pair (.int .u8) (.pair .undef (.pair (.opt (.pair (.int .u8) .unit)) (.pair (.int .i32) (.pair (.int .i32) .unit)))))))))))) .unit) [0] [1] false),
  (19, .struct (.pair (.opt (.pair (.int .u64) (.pair (.int .u64) (.pair (.int .u32) (.pair (.int .u8) (.pair (.int .u8) (.pair (.int .u8) (.pair (.int .u8) (.pair .undef (.pair (.opt (.pair (.int .u8) .unit)) (.pair (.int .i32) (.pair (.int .i32) .unit)))))))))))) .unit) [0] [1] false),
  (20, .cell .itf),
  (21, .cell (.int .i32)),
  (22, .slice 62 (.pair (.int .i64) (.pair (.int .i64) .unit))),
  (23, .struct (.pair (.int .i64) (.pair (.int .i64) (.pair (.int .i64) (.pair (.int .i64) (.pair (.slice (.pair (.int .i64) (.pair (.int .i64) .unit))) .unit))))) [0, 1, 2, 3, 4] [1, 1, 1, 1, 1] false),
  (24, .struct (.pair (.int .i64) (.pair (.int .i64) (.pair (.int .i64) (.pair (.int .i64) (.pair (.slice (.pair (.int .i64) (.pair (.int .i64) .unit))) .unit))))) [0, 1, 2, 3, 4] [1, 1, 1, 1, 1] false),
  (25, .slice 50 (.pair (.int .i64) (.pair (.int .i64) (.pair (.int .i64) .unit)))),
  (26, .slice 3 (.int .i64)),
  (27, .struct (.pair (.int .i64) (.pair (.int .i64) (.pair (.int .i64) (.pair (.slice (.int .i64)) .unit)))) [0, 1, 2, 3] [1, 1, 1, 1] false),
  (28, .struct (.pair (.int .i64) (.pair (.int .i64) (.pair (.int .i64) (.pair (.slice (.int .i64)) .unit)))) [0, 1, 2, 3] [1, 1, 1, 1] false),
  (29, .struct (.pair (.int .i64) (.pair (.int .i64) (.pair (.int .i64) (.pair (.int .i64) (.pair (.int .i64) (.pair (.slice (.pair (.int .i64) (.pair (.int .i64) .unit))) (.pair (.int .i64) (.pair (.slice (.pair (.int .i64) (.pair (.int .i64) (.pair (.int .i64) .unit)))) (.pair (.int .i64) (.pair (.int .i64) (.pair (.int .i64) (.pair (.int .i64) (.pair (.slice (.int .i64)) .unit))))))))))))) [0, 1, 6, 7, 8, 9] [1, 5, 1, 1, 1, 4] false),
  (30, .struct (.pair (.int .i64) (.pair (.int .i64) (.pair (.int .i64) (.pair (.int .i64) (.pair (.int .i64) (.pair (.slice (.pair (.int .i64) (.pair (.int .i64) .unit))) (.pair (.int .i64) (.pair (.slice (.pair (.int .i64) (.pair (.int .i64) (.pair (.int .i64) .unit)))) (.pair (.int .i64) (.pair (.int .i64) (.pair (.int .i64) (.pair (.int .i64) (.pair (.slice (.int .i64)) .unit))))))))))))) [0, 1, 6, 7, 8, 9] [1, 5, 1, 1, 1, 4] false),
  (31, .cell .undef),
  (32, .cell .undef),
  (33, .cell (.int .i64)),
  (35, .cell .undef),
  (36, .struct (.pair (.int .i64) (.pair (.int .i64) (.pair (.int .i64) (.pair (.slice (.int .i64)) .unit)))) [0, 1, 2, 3] [1, 1, 1, 1] false),
  (37, .struct (.pair (.int .i64) (.pair (.int .i64) (.pair (.int .i64) (.pair (.int .i64) (.pair (.int .i64) (.pair (.slice (.pair (.int .i64) (.pair (.int .i64) .unit))) (.pair (.int .i64) (.pair (.slice (.pair (.int .i64) (.pair (.int .i64) (.pair (.int .i64) .unit)))) (.pair (.int .i64) (.pair (.int .i64) (.pair (.int .i64) (.pair (.int .i64) (.pair (.slice (.int .i64)) .unit))))))))))))) [0, 1, 6, 7, 8, 9] [1, 5, 1, 1, 1, 4] false),
  (38, .struct (.pair (.int .i64) (.pair (.int .i64) (.pair (.int .i64) (.pair (.int .i64) (.pair (.int .i64) (.pair (.slice (.pair (.int .i64) (.pair (.int .i64) .unit))) (.pair (.int .i64) (.pair (.slice (.pair (.int .i64) (.pair (.int .i64) (.pair (.int .i64) .unit)))) (.pair (.int .i64) (.pair (.int .i64) (.pair (.int .i64) (.pair (.int .i64) (.pair (.slice (.int .i64)) .unit))))))))))))) [0, 1, 6, 7, 8, 9] [1, 5, 1, 1, 1, 4] false),
  (39, .cell .undef),
  (40, .cell .undef),
  (42, .cell .undef),
  (44, .cell .undef),
  (45, .cell .undef),
  (46, .cell .undef),
  (47, .cell .undef),
  (48, .cell .undef),
  (49, .struct (.pair (.int .i64) (.pair (.int .i64) (.pair (.int .i64) .unit))) [0, 1, 2] [1, 1, 1] true),
  (50, .struct (.pair (.int .i64) (.pair (.int .i64) (.pair (.int .i64) .unit))) [0, 1, 2] [1, 1, 1] true),
  (52, .cell .undef),
  (53, .cell .undef),
  (54, .cell .undef),
  (55, .cell .undef),
  (56, .cell .undef),
  (57, .cell .undef),
  (58, .cell .undef),
  (59, .cell .undef),
  (60, .cell .undef),
  (61, .struct (.pair (.int .i64) (.pair (.int .i64) .unit)) [0, 1] [1, 1] true),
  (62, .struct (.pair (.int .i64) (.pair (.int .i64) .unit)) [0, 1] [1, 1] true),
  (63, .slice 67 (.pair (.int .i64) (.pair .str .unit))),
  (65, .cell .undef),
  (66, .struct (.pair (.int .i64) (.pair .str .unit)) [0, 1] [1, 1] true),
  (67, .struct (.pair (.int .i64) (.pair .str .unit)) [0, 1] [1, 1] true),
  (69, .cell .undef),
  (70, .cell .undef),
  (71, .cell .undef),
  (72, .cell .undef),
  (73, .slice 9 .str),
  (75, .cell .undef),
  (76, .cell .undef),
  (78, .cell .undef),
  (79, .cell .undef),
  (80, .cell .undef),
  (81, .cell .undef),
  (82, .cell .undef),
  (83, .cell .undef),
  (84, .cell .undef),
  (85, .cell .undef),
  (86, .cell .undef),
  (87, .cell .undef),
  (88, .slice 26 (.slice (.int .i64))),
  (89, .cell .undef),
  (90, .cell .undef),
  (91, .cell .undef),
  (92, .cell .undef),
  (93, .cell .undef),
  (94, .cell .undef),
  (95, .cell .undef),
  (97, .cell .undef),
  (99, .cell .undef),
  (100, .slice 103 (.pair (.int .i64) (.pair .str .unit))),
  (102, .cell .undef),
  (103, .struct (.pair (.int .i64) (.pair .str .unit)) [0, 1] [1, 1] true),
  (104, .cell .undef),
  (106, .cell .undef),
  (107, .cell .undef),
  (108, .cell .undef),
  (109, .slice 5 (.int .u8)),
  (110, .cell .undef),
  (111, .cell .undef),
  (113, .cell .undef),
  (114, .arr 4 3 1 (.pair (.int .i64) (.pair (.int .i64) (.pair (.int .i64) (.pair (.int .i64) .unit))))),
  (115, .cell .undef),
  (116, .cell .undef),
  (118, .cell .undef),
  (119, .cell .undef),
  (120, .cell .undef),
  (121, .struct (.pair .undef (.pair (.slice (.int .u8)) .unit)) [0, 1] [1, 1] false),
  (123, .cell .undef),
  (124, .cell .itf),
  (125, .cell .itf),
  (127, .cell .undef),
  (128, .cell .undef),
  (129, .cell .undef),
  (130, .cell .undef),
  (132, .cell .undef),
  (133, .cell .undef),
  (134, .cell (.opt (.pair (.int .u8) .unit))),
  (135, .cell .undef),
  (136, .cell .undef),
  (137, .arr 24 5 1 (.pair (.int .u8) (.pair (.int .u8) (.pair (.int .u8) (.pair (.int .u8) (.pair (.int .u8) (.pair (.int .u8) (.pair (.int .u8) (.pair (.int .u8) (.pair (.int .u8) (.pair (.int .u8) (.pair (.int .u8) (.pair (.int .u8) (.pair (.int .u8) (.pair (.int .u8) (.pair (.int .u8) (.pair (.int .u8) (.pair (.int .u8) (.pair (.int .u8) (.pair (.int .u8) (.pair (.int .u8) (.pair (.int .u8) (.pair (.int .u8) (.pair (.int .u8) (.pair (.int .u8) .unit))))))))))))))))))))))))),
  (138, .cell (.int .u64)),
  (139, .cell .undef),
  (140, .cell .undef),
  (142, .cell .undef),
  (150, .cell (.int .u64))]
def lookT : List (Nat × TK) → Nat → Option TK
  | [], _ => none
  | p :: r, t => bif Nat.beq p.1 t then some p.2 else lookT r t
def tt : TT := lookT ttL
theorem look_ok {P : Program} : ∀ {l : List (Nat × TK)}, allB (fun p => rowOk P p.1 p.2) l = true → TTok P (lookT l)
  | [], _, t, k, h => by cases h
  | p :: r, hb, t, k, h => by
    simp only [allB, Bool.and_eq_true] at hb
    simp only [lookT] at h
    cases he : Nat.beq p.1 t with
    | true => rw [he, cond_true] at h; cases h; obtain rfl := Nat.eq_of_beq_eq_true he; exact hb.1
    | false => rw [he, cond_false] at h; exact look_ok hb.2 t k h
theorem hT : TTok Tryz.prog tt := look_ok (by kernel_rfl)
theorem mixed : Tryz.prog.follows .mixedOrders = true := by kernel_rfl
theorem hS : ∀ w w', Laid Tryz.prog w → Below w.heap.size w w' → Laid Tryz.prog w' := fun _ _ h hb => h.below hb
theorem okL_IndexByte : SigOK Tryz.prog (Laid Tryz.prog) 74 sig_IndexByte := ok_IndexByte Tryz.lays137 ⟨_, Tryz.func74, (by decide), rfl⟩
theorem okL_IndexByteI : SigOK Tryz.prog (Laid Tryz.prog) 85 sig_IndexByteI := ok_IndexByteI Tryz.lays217 ⟨_, Tryz.func85, (by decide), rfl⟩
theorem okL_Itoa : SigOK Tryz.prog (Laid Tryz.prog) 65 sig_Itoa := ok_Itoa Tryz.laysM171 ⟨_, Tryz.func65, (by decide), rfl⟩
theorem okL_Join : SigOK Tryz.prog (Laid Tryz.prog) 66 sig_Join := ok_Join Tryz.lays156 Tryz.Builder_Extra_156 ⟨_, Tryz.func66, (by decide), rfl⟩
theorem okL_ParseInt : SigOK Tryz.prog (Laid Tryz.prog) 84 sig_ParseInt := ok_ParseInt Tryz.laysC174 ⟨_, Tryz.func84, (by decide), rfl⟩
end Go.Rai
