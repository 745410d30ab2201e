/- A part of the proof: tables of the program, by name. -/
import Derived.Test.YtjkpfnmkhjlllaaGreatDoorRzStep
import Derived.Test.YtjkpfnmkhjlllaaGreatDoorProg
import Derived.KernelRfl
set_option linter.unusedVariables false
set_option linter.unusedSimpArgs false
namespace Go.Rz
theorem mixed : Go.Proofs.Tryz.prog.follows .mixedOrders = true := by kernel_rfl
noncomputable abbrev PP : Program := Go.Proofs.Tryz.prog
namespace N
abbrev gosem_cut_init : FuncId := 2
theorem gosem_cut_init_f : Go.Proofs.Tryz.prog.funcs[gosem_cut_init]? = some Go.Proofs.Tryz.f2 := Go.Proofs.Tryz.func2
theorem gosem_cut_init_is : IsFn Go.Proofs.Tryz.prog gosem_cut_init := ⟨_, Go.Proofs.Tryz.func2, rfl, by kernel_rfl⟩
abbrev roslaw15_GiveOnce : FuncId := 3
theorem roslaw15_GiveOnce_f : Go.Proofs.Tryz.prog.funcs[roslaw15_GiveOnce]? = some Go.Proofs.Tryz.f3 := Go.Proofs.Tryz.func3
theorem roslaw15_GiveOnce_is : IsFn Go.Proofs.Tryz.prog roslaw15_GiveOnce := ⟨_, Go.Proofs.Tryz.func3, rfl, by kernel_rfl⟩
def roslaw15_GiveOnce_d (i : Nat) : List (Nat × Nat × Bool × List Nat) := bif Nat.beq i 14 then [(0, 0, false, []), (1, 0, false, []), (2, 0, false, []), (3, 0, false, []), (4, 0, false, []), (5, 0, false, []), (6, 1, false, []), (7, 1, false, []), (8, 0, false, []), (9, 0, false, []), (10, 0, false, []), (11, 0, false, []), (12, 0, false, []), (13, 0, false, []), (14, 1, false, []), (15, 0, false, []), (16, 0, false, []), (17, 0, false, []), (18, 0, false, []), (19, 0, false, []), (20, 0, false, []), (21, 1, false, []), (22, 0, false, []), (23, 0, false, []), (24, 0, false, []), (25, 0, false, []), (26, 0, false, []), (27, 0, false, []), (28, 1, false, []), (29, 0, false, []), (30, 0, false, []), (31, 0, false, []), (32, 0, false, []), (33, 0, false, []), (34, 0, false, []), (35, 1, false, []), (36, 0, false, []), (37, 0, false, []), (38, 0, false, [])] else []
abbrev roslaw16_TakeRefuses : FuncId := 4
theorem roslaw16_TakeRefuses_f : Go.Proofs.Tryz.prog.funcs[roslaw16_TakeRefuses]? = some Go.Proofs.Tryz.f4 := Go.Proofs.Tryz.func4
theorem roslaw16_TakeRefuses_is : IsFn Go.Proofs.Tryz.prog roslaw16_TakeRefuses := ⟨_, Go.Proofs.Tryz.func4, rfl, by kernel_rfl⟩
abbrev roslaw16_TakeUnseen : FuncId := 5
theorem roslaw16_TakeUnseen_f : Go.Proofs.Tryz.prog.funcs[roslaw16_TakeUnseen]? = some Go.Proofs.Tryz.f5 := Go.Proofs.Tryz.func5
theorem roslaw16_TakeUnseen_is : IsFn Go.Proofs.Tryz.prog roslaw16_TakeUnseen := ⟨_, Go.Proofs.Tryz.func5, rfl, by kernel_rfl⟩
def roslaw16_TakeUnseen_d (i : Nat) : List (Nat × Nat × Bool × List Nat) := bif Nat.beq i 14 then [(0, 0, false, []), (1, 1, false, []), (2, 0, false, []), (3, 0, false, []), (4, 0, false, []), (5, 0, false, []), (6, 1, false, []), (7, 0, false, []), (8, 0, false, []), (9, 0, false, []), (10, 0, false, []), (11, 0, false, []), (12, 1, false, []), (13, 0, false, []), (14, 0, false, []), (15, 0, false, []), (16, 0, false, []), (17, 1, true, []), (18, 0, false, []), (19, 1, false, []), (20, 2, false, [17]), (21, 2, false, []), (22, 0, false, []), (23, 0, false, [])] else []
abbrev roslaw16_TakeWrong : FuncId := 6
theorem roslaw16_TakeWrong_f : Go.Proofs.Tryz.prog.funcs[roslaw16_TakeWrong]? = some Go.Proofs.Tryz.f6 := Go.Proofs.Tryz.func6
theorem roslaw16_TakeWrong_is : IsFn Go.Proofs.Tryz.prog roslaw16_TakeWrong := ⟨_, Go.Proofs.Tryz.func6, rfl, by kernel_rfl⟩
def roslaw16_TakeWrong_d (i : Nat) : List (Nat × Nat × Bool × List Nat) := bif Nat.beq i 11 then [(0, 1, true, []), (1, 0, false, []), (2, 2, false, [0]), (3, 2, false, []), (4, 0, false, [])] else []
abbrev roslaw14_HoldArcs : FuncId := 7
theorem roslaw14_HoldArcs_f : Go.Proofs.Tryz.prog.funcs[roslaw14_HoldArcs]? = some Go.Proofs.Tryz.f7 := Go.Proofs.Tryz.func7
theorem roslaw14_HoldArcs_is : IsFn Go.Proofs.Tryz.prog roslaw14_HoldArcs := ⟨_, Go.Proofs.Tryz.func7, rfl, by kernel_rfl⟩
def roslaw14_HoldArcs_d (i : Nat) : List (Nat × Nat × Bool × List Nat) := bif Nat.beq i 6 then [(0, 0, false, []), (1, 0, false, []), (2, 0, false, []), (3, 0, false, []), (4, 1, false, []), (5, 0, false, []), (6, 0, false, []), (7, 0, false, []), (8, 1, false, []), (9, 0, false, [])] else bif Nat.beq i 19 then [(0, 0, false, []), (1, 0, false, []), (2, 0, false, []), (3, 0, false, []), (4, 1, false, []), (5, 0, false, []), (6, 0, false, []), (7, 0, false, []), (8, 0, false, []), (9, 1, false, []), (10, 0, false, []), (11, 0, false, []), (12, 2, false, []), (13, 0, false, [])] else bif Nat.beq i 22 then [(0, 0, false, []), (3, 0, false, []), (1, 2, false, []), (2, 0, false, []), (4, 0, false, []), (5, 0, false, []), (6, 0, false, []), (7, 0, false, []), (8, 0, false, []), (9, 0, false, []), (10, 0, false, []), (11, 0, false, []), (12, 0, false, []), (13, 1, false, []), (14, 0, false, []), (15, 0, false, []), (16, 1, false, []), (17, 0, false, []), (18, 0, false, []), (19, 0, false, []), (20, 0, false, []), (21, 0, false, []), (22, 1, false, []), (23, 0, false, []), (24, 0, false, []), (25, 0, false, []), (26, 0, false, []), (27, 0, false, []), (28, 0, false, []), (29, 0, false, []), (31, 0, false, []), (30, 2, false, []), (32, 0, false, []), (33, 0, false, []), (34, 0, false, [])] else []
abbrev roslaw14_HoldPoints : FuncId := 8
theorem roslaw14_HoldPoints_f : Go.Proofs.Tryz.prog.funcs[roslaw14_HoldPoints]? = some Go.Proofs.Tryz.f8 := Go.Proofs.Tryz.func8
theorem roslaw14_HoldPoints_is : IsFn Go.Proofs.Tryz.prog roslaw14_HoldPoints := ⟨_, Go.Proofs.Tryz.func8, rfl, by kernel_rfl⟩
abbrev roslaw15_GiveStops : FuncId := 9
theorem roslaw15_GiveStops_f : Go.Proofs.Tryz.prog.funcs[roslaw15_GiveStops]? = some Go.Proofs.Tryz.f9 := Go.Proofs.Tryz.func9
theorem roslaw15_GiveStops_is : IsFn Go.Proofs.Tryz.prog roslaw15_GiveStops := ⟨_, Go.Proofs.Tryz.func9, rfl, by kernel_rfl⟩
def roslaw15_GiveStops_d (i : Nat) : List (Nat × Nat × Bool × List Nat) := bif Nat.beq i 28 then [(0, 0, false, []), (1, 0, false, []), (2, 0, false, []), (3, 0, false, []), (4, 0, false, []), (5, 0, false, []), (6, 0, false, []), (7, 0, false, []), (9, 0, false, []), (10, 0, false, []), (11, 0, false, []), (12, 1, true, []), (13, 0, false, []), (14, 0, false, []), (15, 1, true, []), (8, 2, false, [12, 15]), (16, 2, false, []), (17, 0, false, []), (18, 0, false, []), (19, 0, false, []), (20, 0, false, []), (21, 2, false, []), (22, 0, false, []), (23, 0, false, [])] else []
abbrev roslaw15_GivePlays : FuncId := 10
theorem roslaw15_GivePlays_f : Go.Proofs.Tryz.prog.funcs[roslaw15_GivePlays]? = some Go.Proofs.Tryz.f10 := Go.Proofs.Tryz.func10
theorem roslaw15_GivePlays_is : IsFn Go.Proofs.Tryz.prog roslaw15_GivePlays := ⟨_, Go.Proofs.Tryz.func10, rfl, by kernel_rfl⟩
def roslaw15_GivePlays_d (i : Nat) : List (Nat × Nat × Bool × List Nat) := bif Nat.beq i 43 then [(0, 0, false, []), (1, 0, false, []), (2, 1, false, []), (4, 0, false, []), (5, 0, false, []), (6, 1, true, []), (3, 2, false, [6]), (7, 2, false, []), (8, 2, false, []), (9, 0, false, [])] else bif Nat.beq i 44 then [(0, 0, false, []), (1, 0, false, []), (2, 0, false, []), (3, 0, false, []), (5, 0, false, []), (6, 0, false, []), (7, 0, false, []), (8, 1, true, []), (4, 2, false, [8]), (9, 0, false, []), (10, 0, false, []), (11, 0, false, []), (12, 0, false, []), (14, 0, false, []), (13, 2, false, []), (15, 0, false, []), (16, 0, false, []), (17, 0, false, []), (18, 0, false, []), (19, 0, false, []), (20, 2, false, []), (21, 0, false, []), (22, 0, false, [])] else []
abbrev roslaw16_TakeGives : FuncId := 11
theorem roslaw16_TakeGives_f : Go.Proofs.Tryz.prog.funcs[roslaw16_TakeGives]? = some Go.Proofs.Tryz.f11 := Go.Proofs.Tryz.func11
theorem roslaw16_TakeGives_is : IsFn Go.Proofs.Tryz.prog roslaw16_TakeGives := ⟨_, Go.Proofs.Tryz.func11, rfl, by kernel_rfl⟩
def roslaw16_TakeGives_d (i : Nat) : List (Nat × Nat × Bool × List Nat) := bif Nat.beq i 10 then [(0, 0, false, []), (1, 0, false, []), (2, 0, false, []), (3, 1, false, []), (4, 1, false, []), (5, 2, false, []), (6, 0, false, [])] else bif Nat.beq i 22 then [(0, 0, false, []), (2, 0, false, []), (3, 0, false, []), (4, 0, false, []), (5, 1, true, []), (6, 0, false, []), (7, 0, false, []), (8, 1, true, []), (1, 2, false, [5, 8]), (9, 2, false, []), (10, 0, false, []), (11, 0, false, []), (12, 2, false, []), (13, 0, false, []), (14, 0, false, []), (15, 0, false, []), (16, 0, false, []), (17, 0, false, []), (18, 1, false, []), (19, 2, false, []), (20, 0, false, []), (21, 0, false, []), (22, 0, false, []), (23, 2, false, []), (24, 0, false, []), (25, 0, false, []), (26, 0, false, []), (27, 0, false, [])] else bif Nat.beq i 31 then [(0, 0, false, []), (1, 2, false, []), (2, 0, false, []), (3, 0, false, []), (4, 0, false, []), (5, 0, false, []), (6, 0, false, []), (7, 0, false, []), (8, 0, false, []), (9, 2, false, []), (10, 0, false, []), (11, 0, false, []), (12, 0, false, []), (13, 0, false, []), (16, 0, false, []), (17, 0, false, []), (14, 2, false, []), (15, 0, false, []), (18, 0, false, []), (19, 0, false, []), (20, 0, false, []), (21, 0, false, []), (23, 0, false, []), (26, 0, false, []), (27, 0, false, []), (28, 0, false, []), (29, 1, true, []), (30, 0, false, []), (31, 0, false, []), (32, 1, true, []), (33, 0, false, []), (22, 2, false, [29, 32]), (24, 2, false, [29, 32]), (25, 0, false, []), (34, 0, false, []), (35, 0, false, []), (36, 0, false, []), (37, 0, false, []), (38, 0, false, []), (39, 1, false, []), (40, 2, false, []), (41, 0, false, []), (42, 0, false, []), (43, 0, false, []), (44, 0, false, []), (45, 0, false, []), (46, 1, false, []), (47, 2, false, []), (48, 0, false, []), (49, 0, false, []), (50, 0, false, []), (51, 2, false, []), (52, 0, false, []), (53, 0, false, []), (54, 0, false, [])] else []
abbrev roslaw15_alive : FuncId := 12
theorem roslaw15_alive_f : Go.Proofs.Tryz.prog.funcs[roslaw15_alive]? = some Go.Proofs.Tryz.f12 := Go.Proofs.Tryz.func12
theorem roslaw15_alive_is : IsFn Go.Proofs.Tryz.prog roslaw15_alive := ⟨_, Go.Proofs.Tryz.func12, rfl, by kernel_rfl⟩
abbrev roslaw15_Loaded : FuncId := 13
theorem roslaw15_Loaded_f : Go.Proofs.Tryz.prog.funcs[roslaw15_Loaded]? = some Go.Proofs.Tryz.f13 := Go.Proofs.Tryz.func13
theorem roslaw15_Loaded_is : IsFn Go.Proofs.Tryz.prog roslaw15_Loaded := ⟨_, Go.Proofs.Tryz.func13, rfl, by kernel_rfl⟩
def roslaw15_Loaded_d (i : Nat) : List (Nat × Nat × Bool × List Nat) := bif Nat.beq i 10 then [(0, 0, false, []), (1, 0, false, []), (2, 0, false, []), (3, 0, false, []), (4, 1, true, []), (5, 0, false, []), (6, 0, false, []), (7, 0, false, []), (8, 0, false, []), (9, 1, true, []), (10, 0, false, []), (11, 2, false, [4, 9]), (12, 2, false, [])] else []
abbrev give_Start : FuncId := 14
theorem give_Start_f : Go.Proofs.Tryz.prog.funcs[give_Start]? = some Go.Proofs.Tryz.f14 := Go.Proofs.Tryz.func14
theorem give_Start_is : IsFn Go.Proofs.Tryz.prog give_Start := ⟨_, Go.Proofs.Tryz.func14, rfl, by kernel_rfl⟩
def give_Start_d (i : Nat) : List (Nat × Nat × Bool × List Nat) := bif Nat.beq i 6 then [(0, 0, false, []), (1, 1, true, []), (2, 0, false, []), (3, 0, false, []), (4, 0, false, []), (5, 0, false, []), (6, 0, false, []), (7, 0, false, []), (8, 2, false, [1]), (9, 0, false, []), (10, 2, false, []), (11, 0, false, [])] else bif Nat.beq i 8 then [(0, 1, false, []), (1, 0, false, []), (2, 0, false, []), (3, 0, false, []), (4, 1, true, []), (5, 0, false, []), (6, 0, false, []), (7, 0, false, []), (8, 2, false, [4]), (9, 0, false, []), (10, 2, false, []), (11, 0, false, []), (12, 2, false, [])] else bif Nat.beq i 9 then [(0, 0, false, []), (1, 1, false, []), (3, 0, false, []), (2, 2, false, []), (4, 0, false, []), (5, 0, false, [])] else []
abbrev arc_Within : FuncId := 15
theorem arc_Within_f : Go.Proofs.Tryz.prog.funcs[arc_Within]? = some Go.Proofs.Tryz.f15 := Go.Proofs.Tryz.func15
theorem arc_Within_is : IsFn Go.Proofs.Tryz.prog arc_Within := ⟨_, Go.Proofs.Tryz.func15, rfl, by kernel_rfl⟩
def arc_Within_d (i : Nat) : List (Nat × Nat × Bool × List Nat) := bif Nat.beq i 6 then [(0, 0, false, []), (1, 1, false, []), (2, 2, false, []), (3, 0, false, []), (4, 0, false, []), (5, 1, false, []), (7, 1, true, []), (9, 0, false, []), (6, 2, false, [7]), (8, 2, false, []), (10, 0, false, []), (11, 0, false, []), (12, 0, false, []), (13, 0, false, [])] else []
abbrev roslaw16_alive : FuncId := 16
theorem roslaw16_alive_f : Go.Proofs.Tryz.prog.funcs[roslaw16_alive]? = some Go.Proofs.Tryz.f16 := Go.Proofs.Tryz.func16
theorem roslaw16_alive_is : IsFn Go.Proofs.Tryz.prog roslaw16_alive := ⟨_, Go.Proofs.Tryz.func16, rfl, by kernel_rfl⟩
abbrev hold_New : FuncId := 17
theorem hold_New_f : Go.Proofs.Tryz.prog.funcs[hold_New]? = some Go.Proofs.Tryz.f17 := Go.Proofs.Tryz.func17
theorem hold_New_is : IsFn Go.Proofs.Tryz.prog hold_New := ⟨_, Go.Proofs.Tryz.func17, rfl, by kernel_rfl⟩
abbrev hold_Hold_Own : FuncId := 18
theorem hold_Hold_Own_f : Go.Proofs.Tryz.prog.funcs[hold_Hold_Own]? = some Go.Proofs.Tryz.f18 := Go.Proofs.Tryz.func18
theorem hold_Hold_Own_is : IsFn Go.Proofs.Tryz.prog hold_Hold_Own := ⟨_, Go.Proofs.Tryz.func18, rfl, by kernel_rfl⟩
def hold_Hold_Own_d (i : Nat) : List (Nat × Nat × Bool × List Nat) := bif Nat.beq i 6 then [(0, 0, false, []), (1, 0, false, []), (2, 0, false, []), (3, 0, false, []), (4, 1, true, []), (5, 1, false, []), (6, 0, false, []), (7, 0, false, []), (8, 0, false, []), (9, 1, false, []), (10, 0, false, []), (11, 0, false, []), (12, 2, false, [4]), (13, 2, false, []), (14, 0, false, []), (15, 0, false, []), (16, 2, false, [])] else []
abbrev take_Offered : FuncId := 19
theorem take_Offered_f : Go.Proofs.Tryz.prog.funcs[take_Offered]? = some Go.Proofs.Tryz.f19 := Go.Proofs.Tryz.func19
theorem take_Offered_is : IsFn Go.Proofs.Tryz.prog take_Offered := ⟨_, Go.Proofs.Tryz.func19, rfl, by kernel_rfl⟩
abbrev rosref1_Apart : FuncId := 20
theorem rosref1_Apart_f : Go.Proofs.Tryz.prog.funcs[rosref1_Apart]? = some Go.Proofs.Tryz.f20 := Go.Proofs.Tryz.func20
theorem rosref1_Apart_is : IsFn Go.Proofs.Tryz.prog rosref1_Apart := ⟨_, Go.Proofs.Tryz.func20, rfl, by kernel_rfl⟩
abbrev hold_Hold_Keep : FuncId := 21
theorem hold_Hold_Keep_f : Go.Proofs.Tryz.prog.funcs[hold_Hold_Keep]? = some Go.Proofs.Tryz.f21 := Go.Proofs.Tryz.func21
theorem hold_Hold_Keep_is : IsFn Go.Proofs.Tryz.prog hold_Hold_Keep := ⟨_, Go.Proofs.Tryz.func21, rfl, by kernel_rfl⟩
def hold_Hold_Keep_d (i : Nat) : List (Nat × Nat × Bool × List Nat) := bif Nat.beq i 1 then [(0, 0, false, []), (1, 0, false, []), (2, 0, false, []), (3, 0, false, []), (4, 0, false, []), (5, 0, false, []), (6, 0, false, []), (7, 0, false, []), (8, 0, false, []), (9, 0, false, []), (10, 0, false, []), (11, 1, true, []), (12, 0, false, []), (13, 0, false, []), (14, 0, false, []), (15, 1, false, []), (18, 0, false, []), (19, 0, false, []), (20, 0, false, []), (21, 1, true, []), (16, 2, false, [11, 21]), (17, 0, false, []), (22, 0, false, []), (23, 0, false, []), (24, 0, false, [])] else []
abbrev take_Take_Got : FuncId := 22
theorem take_Take_Got_f : Go.Proofs.Tryz.prog.funcs[take_Take_Got]? = some Go.Proofs.Tryz.f22 := Go.Proofs.Tryz.func22
theorem take_Take_Got_is : IsFn Go.Proofs.Tryz.prog take_Take_Got := ⟨_, Go.Proofs.Tryz.func22, rfl, by kernel_rfl⟩
def take_Take_Got_d (i : Nat) : List (Nat × Nat × Bool × List Nat) := bif Nat.beq i 1 then [(0, 0, false, []), (1, 0, false, []), (2, 0, false, []), (3, 0, false, []), (4, 1, false, []), (5, 0, false, []), (6, 0, false, []), (7, 0, false, []), (8, 1, false, []), (9, 0, false, []), (10, 0, false, []), (11, 0, false, []), (12, 0, false, []), (13, 1, false, []), (14, 0, false, []), (15, 0, false, []), (16, 0, false, []), (17, 1, false, []), (18, 0, false, []), (19, 0, false, [])] else bif Nat.beq i 4 then [(0, 0, false, []), (1, 0, false, []), (2, 0, false, []), (3, 1, false, []), (4, 0, false, []), (5, 0, false, []), (6, 0, false, []), (7, 1, false, []), (8, 0, false, []), (9, 0, false, []), (10, 0, false, []), (11, 0, false, []), (12, 1, false, []), (13, 0, false, []), (14, 0, false, []), (15, 0, false, []), (16, 1, false, []), (17, 0, false, []), (18, 0, false, []), (19, 0, false, []), (20, 0, false, []), (21, 0, false, []), (22, 0, false, []), (23, 1, false, []), (24, 2, false, []), (25, 0, false, []), (26, 0, false, [])] else bif Nat.beq i 6 then [(0, 0, false, []), (1, 0, false, []), (2, 0, false, []), (3, 0, false, []), (4, 1, false, []), (5, 0, false, []), (6, 1, false, []), (7, 2, false, []), (8, 0, false, []), (9, 0, false, []), (10, 2, false, [])] else bif Nat.beq i 8 then [(0, 0, false, []), (1, 0, false, []), (2, 0, false, []), (3, 1, false, []), (4, 0, false, []), (5, 0, false, []), (6, 0, false, []), (7, 1, false, []), (8, 0, false, []), (9, 0, false, []), (10, 0, false, []), (11, 0, false, []), (12, 0, false, []), (13, 0, false, []), (14, 1, false, []), (15, 0, false, []), (16, 0, false, []), (17, 0, false, []), (18, 0, false, []), (19, 1, false, []), (20, 0, false, []), (21, 0, false, []), (22, 0, false, [])] else bif Nat.beq i 9 then [(0, 0, false, []), (1, 0, false, []), (2, 0, false, []), (3, 1, false, []), (4, 0, false, []), (5, 0, false, []), (6, 0, false, []), (7, 1, false, []), (8, 0, false, []), (9, 0, false, []), (10, 0, false, []), (11, 1, false, []), (12, 0, false, []), (13, 0, false, []), (14, 0, false, []), (15, 1, false, []), (16, 2, false, []), (17, 0, false, [])] else bif Nat.beq i 13 then [(0, 0, false, []), (1, 0, false, []), (2, 0, false, []), (3, 1, false, []), (4, 0, false, []), (5, 0, false, []), (6, 0, false, []), (7, 1, false, []), (8, 2, false, [])] else bif Nat.beq i 17 then [(0, 0, false, []), (1, 0, false, []), (2, 0, false, []), (3, 0, false, []), (4, 1, false, []), (5, 0, false, []), (6, 0, false, []), (7, 0, false, [])] else []
abbrev take_Take_Step : FuncId := 23
theorem take_Take_Step_f : Go.Proofs.Tryz.prog.funcs[take_Take_Step]? = some Go.Proofs.Tryz.f23 := Go.Proofs.Tryz.func23
theorem take_Take_Step_is : IsFn Go.Proofs.Tryz.prog take_Take_Step := ⟨_, Go.Proofs.Tryz.func23, rfl, by kernel_rfl⟩
abbrev rosref1_In : FuncId := 24
theorem rosref1_In_f : Go.Proofs.Tryz.prog.funcs[rosref1_In]? = some Go.Proofs.Tryz.f24 := Go.Proofs.Tryz.func24
theorem rosref1_In_is : IsFn Go.Proofs.Tryz.prog rosref1_In := ⟨_, Go.Proofs.Tryz.func24, rfl, by kernel_rfl⟩
abbrev rosref1_Addr : FuncId := 25
theorem rosref1_Addr_f : Go.Proofs.Tryz.prog.funcs[rosref1_Addr]? = some Go.Proofs.Tryz.f25 := Go.Proofs.Tryz.func25
theorem rosref1_Addr_is : IsFn Go.Proofs.Tryz.prog rosref1_Addr := ⟨_, Go.Proofs.Tryz.func25, rfl, by kernel_rfl⟩
abbrev hold_Hold_Len : FuncId := 26
theorem hold_Hold_Len_f : Go.Proofs.Tryz.prog.funcs[hold_Hold_Len]? = some Go.Proofs.Tryz.f26 := Go.Proofs.Tryz.func26
theorem hold_Hold_Len_is : IsFn Go.Proofs.Tryz.prog hold_Hold_Len := ⟨_, Go.Proofs.Tryz.func26, rfl, by kernel_rfl⟩
abbrev hold_Hold_Arcs : FuncId := 27
theorem hold_Hold_Arcs_f : Go.Proofs.Tryz.prog.funcs[hold_Hold_Arcs]? = some Go.Proofs.Tryz.f27 := Go.Proofs.Tryz.func27
theorem hold_Hold_Arcs_is : IsFn Go.Proofs.Tryz.prog hold_Hold_Arcs := ⟨_, Go.Proofs.Tryz.func27, rfl, by kernel_rfl⟩
abbrev hold_Hold_Do : FuncId := 28
theorem hold_Hold_Do_f : Go.Proofs.Tryz.prog.funcs[hold_Hold_Do]? = some Go.Proofs.Tryz.f28 := Go.Proofs.Tryz.func28
theorem hold_Hold_Do_is : IsFn Go.Proofs.Tryz.prog hold_Hold_Do := ⟨_, Go.Proofs.Tryz.func28, rfl, by kernel_rfl⟩
def hold_Hold_Do_d (i : Nat) : List (Nat × Nat × Bool × List Nat) := bif Nat.beq i 19 then [(0, 0, false, []), (1, 0, false, []), (2, 0, false, []), (3, 1, false, []), (4, 0, false, []), (5, 1, false, []), (6, 2, false, []), (7, 0, false, []), (8, 0, false, []), (9, 0, false, []), (10, 0, false, []), (11, 0, false, [])] else bif Nat.beq i 23 then [(0, 0, false, []), (1, 0, false, []), (2, 0, false, []), (3, 1, false, []), (4, 0, false, []), (5, 1, false, []), (6, 2, false, [])] else []
abbrev hold_Hold_Has : FuncId := 29
theorem hold_Hold_Has_f : Go.Proofs.Tryz.prog.funcs[hold_Hold_Has]? = some Go.Proofs.Tryz.f29 := Go.Proofs.Tryz.func29
theorem hold_Hold_Has_is : IsFn Go.Proofs.Tryz.prog hold_Hold_Has := ⟨_, Go.Proofs.Tryz.func29, rfl, by kernel_rfl⟩
abbrev hold_Hold_Epoch : FuncId := 30
theorem hold_Hold_Epoch_f : Go.Proofs.Tryz.prog.funcs[hold_Hold_Epoch]? = some Go.Proofs.Tryz.f30 := Go.Proofs.Tryz.func30
theorem hold_Hold_Epoch_is : IsFn Go.Proofs.Tryz.prog hold_Hold_Epoch := ⟨_, Go.Proofs.Tryz.func30, rfl, by kernel_rfl⟩
abbrev roslaw14_alive : FuncId := 31
theorem roslaw14_alive_f : Go.Proofs.Tryz.prog.funcs[roslaw14_alive]? = some Go.Proofs.Tryz.f31 := Go.Proofs.Tryz.func31
theorem roslaw14_alive_is : IsFn Go.Proofs.Tryz.prog roslaw14_alive := ⟨_, Go.Proofs.Tryz.func31, rfl, by kernel_rfl⟩
abbrev hold_Hold_Pieces : FuncId := 32
theorem hold_Hold_Pieces_f : Go.Proofs.Tryz.prog.funcs[hold_Hold_Pieces]? = some Go.Proofs.Tryz.f32 := Go.Proofs.Tryz.func32
theorem hold_Hold_Pieces_is : IsFn Go.Proofs.Tryz.prog hold_Hold_Pieces := ⟨_, Go.Proofs.Tryz.func32, rfl, by kernel_rfl⟩
abbrev hold_Hold_Freeze : FuncId := 33
theorem hold_Hold_Freeze_f : Go.Proofs.Tryz.prog.funcs[hold_Hold_Freeze]? = some Go.Proofs.Tryz.f33 := Go.Proofs.Tryz.func33
theorem hold_Hold_Freeze_is : IsFn Go.Proofs.Tryz.prog hold_Hold_Freeze := ⟨_, Go.Proofs.Tryz.func33, rfl, by kernel_rfl⟩
def hold_Hold_Freeze_d (i : Nat) : List (Nat × Nat × Bool × List Nat) := bif Nat.beq i 9 then [(0, 0, false, []), (1, 0, false, []), (2, 0, false, []), (3, 1, false, []), (4, 2, false, [])] else bif Nat.beq i 10 then [(0, 0, false, []), (1, 0, false, []), (2, 0, false, []), (3, 1, false, []), (4, 1, false, []), (7, 0, false, []), (5, 2, false, []), (6, 2, false, []), (8, 0, false, []), (9, 0, false, []), (10, 0, false, [])] else []
abbrev hold_Hold_Lose : FuncId := 34
theorem hold_Hold_Lose_f : Go.Proofs.Tryz.prog.funcs[hold_Hold_Lose]? = some Go.Proofs.Tryz.f34 := Go.Proofs.Tryz.func34
theorem hold_Hold_Lose_is : IsFn Go.Proofs.Tryz.prog hold_Hold_Lose := ⟨_, Go.Proofs.Tryz.func34, rfl, by kernel_rfl⟩
def hold_Hold_Lose_d (i : Nat) : List (Nat × Nat × Bool × List Nat) := bif Nat.beq i 17 then [(0, 0, false, []), (1, 0, false, []), (2, 0, false, []), (3, 1, false, []), (4, 1, false, []), (5, 2, false, [])] else bif Nat.beq i 19 then [(0, 0, false, []), (1, 0, false, []), (2, 0, false, []), (3, 1, false, []), (4, 0, false, []), (5, 2, false, [])] else []
abbrev hold_Hold_Tick : FuncId := 35
theorem hold_Hold_Tick_f : Go.Proofs.Tryz.prog.funcs[hold_Hold_Tick]? = some Go.Proofs.Tryz.f35 := Go.Proofs.Tryz.func35
theorem hold_Hold_Tick_is : IsFn Go.Proofs.Tryz.prog hold_Hold_Tick := ⟨_, Go.Proofs.Tryz.func35, rfl, by kernel_rfl⟩
abbrev give_Give_Got : FuncId := 36
theorem give_Give_Got_f : Go.Proofs.Tryz.prog.funcs[give_Give_Got]? = some Go.Proofs.Tryz.f36 := Go.Proofs.Tryz.func36
theorem give_Give_Got_is : IsFn Go.Proofs.Tryz.prog give_Give_Got := ⟨_, Go.Proofs.Tryz.func36, rfl, by kernel_rfl⟩
def give_Give_Got_d (i : Nat) : List (Nat × Nat × Bool × List Nat) := bif Nat.beq i 1 then [(0, 0, false, []), (1, 0, false, []), (2, 0, false, []), (3, 0, false, []), (4, 1, false, []), (5, 0, false, []), (6, 0, false, []), (7, 0, false, []), (8, 1, false, []), (9, 0, false, []), (10, 0, false, []), (11, 0, false, []), (12, 0, false, []), (13, 1, false, []), (14, 0, false, []), (15, 0, false, []), (16, 0, false, []), (17, 1, false, []), (18, 0, false, []), (19, 0, false, [])] else bif Nat.beq i 9 then [(0, 0, false, []), (1, 0, false, []), (2, 0, false, []), (3, 1, false, []), (4, 0, false, []), (5, 0, false, []), (6, 0, false, []), (7, 1, false, []), (8, 0, false, []), (9, 0, false, []), (10, 0, false, []), (11, 0, false, []), (12, 1, false, []), (13, 0, false, []), (14, 0, false, []), (15, 0, false, []), (16, 1, false, []), (17, 0, false, []), (18, 0, false, []), (19, 0, false, [])] else bif Nat.beq i 12 then [(0, 0, false, []), (1, 0, false, []), (2, 0, false, []), (3, 1, false, []), (4, 0, false, []), (5, 0, false, []), (6, 0, false, []), (7, 1, false, []), (8, 2, false, [])] else []
abbrev give_Give_Step : FuncId := 37
theorem give_Give_Step_f : Go.Proofs.Tryz.prog.funcs[give_Give_Step]? = some Go.Proofs.Tryz.f37 := Go.Proofs.Tryz.func37
theorem give_Give_Step_is : IsFn Go.Proofs.Tryz.prog give_Give_Step := ⟨_, Go.Proofs.Tryz.func37, rfl, by kernel_rfl⟩
abbrev give_Give_Stop : FuncId := 38
theorem give_Give_Stop_f : Go.Proofs.Tryz.prog.funcs[give_Give_Stop]? = some Go.Proofs.Tryz.f38 := Go.Proofs.Tryz.func38
theorem give_Give_Stop_is : IsFn Go.Proofs.Tryz.prog give_Give_Stop := ⟨_, Go.Proofs.Tryz.func38, rfl, by kernel_rfl⟩
abbrev rosbook_SameItems : FuncId := 39
theorem rosbook_SameItems_f : Go.Proofs.Tryz.prog.funcs[rosbook_SameItems]? = some Go.Proofs.Tryz.f39 := Go.Proofs.Tryz.func39
theorem rosbook_SameItems_is : IsFn Go.Proofs.Tryz.prog rosbook_SameItems := ⟨_, Go.Proofs.Tryz.func39, rfl, by kernel_rfl⟩
def rosbook_SameItems_d (i : Nat) : List (Nat × Nat × Bool × List Nat) := bif Nat.beq i 6 then [(0, 0, false, []), (1, 0, false, []), (2, 0, false, []), (3, 1, false, []), (4, 0, false, []), (5, 0, false, []), (6, 0, false, []), (7, 1, false, []), (8, 0, false, []), (9, 0, false, [])] else []
abbrev hold_Hold_Items : FuncId := 40
theorem hold_Hold_Items_f : Go.Proofs.Tryz.prog.funcs[hold_Hold_Items]? = some Go.Proofs.Tryz.f40 := Go.Proofs.Tryz.func40
theorem hold_Hold_Items_is : IsFn Go.Proofs.Tryz.prog hold_Hold_Items := ⟨_, Go.Proofs.Tryz.func40, rfl, by kernel_rfl⟩
abbrev roslaw14_Is : FuncId := 41
theorem roslaw14_Is_f : Go.Proofs.Tryz.prog.funcs[roslaw14_Is]? = some Go.Proofs.Tryz.f41 := Go.Proofs.Tryz.func41
theorem roslaw14_Is_is : IsFn Go.Proofs.Tryz.prog roslaw14_Is := ⟨_, Go.Proofs.Tryz.func41, rfl, by kernel_rfl⟩
def roslaw14_Is_d (i : Nat) : List (Nat × Nat × Bool × List Nat) := bif Nat.beq i 1 then [(0, 0, false, []), (2, 0, false, []), (1, 2, false, []), (3, 2, false, []), (4, 2, false, []), (5, 0, false, []), (6, 0, false, []), (8, 0, false, []), (7, 2, false, []), (9, 2, false, []), (10, 2, false, []), (11, 0, false, []), (12, 0, false, []), (13, 0, false, []), (15, 0, false, []), (16, 0, false, []), (17, 0, false, []), (18, 1, true, []), (19, 0, false, []), (20, 0, false, []), (21, 1, true, []), (14, 2, false, [18, 21]), (22, 2, false, []), (23, 0, false, []), (24, 0, false, []), (25, 0, false, []), (27, 0, false, []), (28, 0, false, []), (29, 0, false, []), (30, 1, true, []), (31, 0, false, []), (32, 0, false, []), (33, 1, true, []), (34, 0, false, []), (26, 2, false, [30, 33]), (35, 0, false, []), (36, 0, false, []), (37, 0, false, []), (38, 0, false, []), (40, 0, false, []), (39, 2, false, []), (41, 2, false, []), (42, 0, false, []), (43, 0, false, []), (44, 0, false, [])] else []
abbrev rosref10_Start : FuncId := 42
theorem rosref10_Start_f : Go.Proofs.Tryz.prog.funcs[rosref10_Start]? = some Go.Proofs.Tryz.f42 := Go.Proofs.Tryz.func42
theorem rosref10_Start_is : IsFn Go.Proofs.Tryz.prog rosref10_Start := ⟨_, Go.Proofs.Tryz.func42, rfl, by kernel_rfl⟩
def rosref10_Start_d (i : Nat) : List (Nat × Nat × Bool × List Nat) := bif Nat.beq i 8 then [(0, 1, false, []), (1, 0, false, []), (2, 0, false, []), (3, 0, false, []), (4, 1, true, []), (5, 0, false, []), (6, 0, false, []), (7, 0, false, []), (8, 2, false, [4]), (9, 0, false, []), (10, 2, false, []), (11, 0, false, []), (12, 2, false, [])] else bif Nat.beq i 9 then [(0, 0, false, []), (1, 1, false, []), (3, 0, false, []), (2, 2, false, []), (4, 0, false, []), (5, 0, false, [])] else []
abbrev rosbook_SameLetters : FuncId := 43
theorem rosbook_SameLetters_f : Go.Proofs.Tryz.prog.funcs[rosbook_SameLetters]? = some Go.Proofs.Tryz.f43 := Go.Proofs.Tryz.func43
theorem rosbook_SameLetters_is : IsFn Go.Proofs.Tryz.prog rosbook_SameLetters := ⟨_, Go.Proofs.Tryz.func43, rfl, by kernel_rfl⟩
def rosbook_SameLetters_d (i : Nat) : List (Nat × Nat × Bool × List Nat) := bif Nat.beq i 6 then [(0, 0, false, []), (1, 0, false, []), (2, 0, false, []), (3, 1, false, []), (4, 0, false, []), (5, 0, false, []), (6, 0, false, []), (7, 1, false, []), (8, 2, false, []), (9, 0, false, [])] else []
abbrev give_Give_Id : FuncId := 44
theorem give_Give_Id_f : Go.Proofs.Tryz.prog.funcs[give_Give_Id]? = some Go.Proofs.Tryz.f44 := Go.Proofs.Tryz.func44
theorem give_Give_Id_is : IsFn Go.Proofs.Tryz.prog give_Give_Id := ⟨_, Go.Proofs.Tryz.func44, rfl, by kernel_rfl⟩
abbrev rosbook_Book_Letters : FuncId := 45
theorem rosbook_Book_Letters_f : Go.Proofs.Tryz.prog.funcs[rosbook_Book_Letters]? = some Go.Proofs.Tryz.f45 := Go.Proofs.Tryz.func45
theorem rosbook_Book_Letters_is : IsFn Go.Proofs.Tryz.prog rosbook_Book_Letters := ⟨_, Go.Proofs.Tryz.func45, rfl, by kernel_rfl⟩
def rosbook_Book_Letters_d (i : Nat) : List (Nat × Nat × Bool × List Nat) := bif Nat.beq i 2 then [(0, 0, false, []), (1, 0, false, []), (2, 0, false, []), (3, 0, false, []), (4, 1, true, []), (5, 0, false, []), (6, 2, false, [4]), (7, 2, false, [4]), (8, 2, false, []), (9, 0, false, []), (10, 0, false, []), (11, 2, false, [])] else []
abbrev rosref10_Give_Stop : FuncId := 46
theorem rosref10_Give_Stop_f : Go.Proofs.Tryz.prog.funcs[rosref10_Give_Stop]? = some Go.Proofs.Tryz.f46 := Go.Proofs.Tryz.func46
theorem rosref10_Give_Stop_is : IsFn Go.Proofs.Tryz.prog rosref10_Give_Stop := ⟨_, Go.Proofs.Tryz.func46, rfl, by kernel_rfl⟩
abbrev rosbook_SameTold : FuncId := 47
theorem rosbook_SameTold_f : Go.Proofs.Tryz.prog.funcs[rosbook_SameTold]? = some Go.Proofs.Tryz.f47 := Go.Proofs.Tryz.func47
theorem rosbook_SameTold_is : IsFn Go.Proofs.Tryz.prog rosbook_SameTold := ⟨_, Go.Proofs.Tryz.func47, rfl, by kernel_rfl⟩
abbrev rosref10_Hold_Do : FuncId := 48
theorem rosref10_Hold_Do_f : Go.Proofs.Tryz.prog.funcs[rosref10_Hold_Do]? = some Go.Proofs.Tryz.f48 := Go.Proofs.Tryz.func48
theorem rosref10_Hold_Do_is : IsFn Go.Proofs.Tryz.prog rosref10_Hold_Do := ⟨_, Go.Proofs.Tryz.func48, rfl, by kernel_rfl⟩
def rosref10_Hold_Do_d (i : Nat) : List (Nat × Nat × Bool × List Nat) := bif Nat.beq i 14 then [(0, 0, false, []), (1, 0, false, []), (2, 0, false, []), (3, 1, false, []), (4, 0, false, []), (5, 1, false, []), (6, 2, false, []), (7, 0, false, []), (8, 0, false, []), (9, 0, false, []), (10, 0, false, []), (11, 0, false, [])] else bif Nat.beq i 24 then [(0, 0, false, []), (1, 0, false, []), (2, 0, false, []), (3, 0, false, []), (4, 0, false, []), (5, 0, false, []), (6, 1, false, []), (7, 0, false, []), (8, 0, false, []), (9, 1, false, []), (10, 0, false, []), (11, 0, false, []), (12, 0, false, []), (13, 0, false, []), (14, 1, false, []), (15, 0, false, []), (16, 0, false, []), (17, 0, false, []), (18, 0, false, []), (19, 1, false, []), (20, 0, false, []), (21, 0, false, [])] else bif Nat.beq i 26 then [(0, 0, false, []), (1, 0, false, []), (2, 0, false, []), (3, 1, false, []), (4, 0, false, []), (5, 1, false, []), (6, 0, false, []), (7, 1, false, []), (8, 2, false, []), (9, 0, false, []), (10, 2, false, [])] else bif Nat.beq i 30 then [(0, 0, false, []), (1, 0, false, []), (2, 0, false, []), (3, 1, false, []), (4, 0, false, []), (5, 1, false, []), (6, 2, false, [])] else []
abbrev rosref10_Give_Got : FuncId := 49
theorem rosref10_Give_Got_f : Go.Proofs.Tryz.prog.funcs[rosref10_Give_Got]? = some Go.Proofs.Tryz.f49 := Go.Proofs.Tryz.func49
theorem rosref10_Give_Got_is : IsFn Go.Proofs.Tryz.prog rosref10_Give_Got := ⟨_, Go.Proofs.Tryz.func49, rfl, by kernel_rfl⟩
def rosref10_Give_Got_d (i : Nat) : List (Nat × Nat × Bool × List Nat) := bif Nat.beq i 1 then [(0, 0, false, []), (1, 1, false, []), (2, 0, false, []), (3, 0, false, []), (4, 0, false, []), (5, 1, false, []), (6, 0, false, []), (7, 0, false, []), (8, 0, false, []), (9, 1, false, []), (10, 0, false, []), (11, 0, false, []), (12, 0, false, []), (13, 1, false, []), (14, 0, false, []), (15, 0, false, [])] else bif Nat.beq i 10 then [(0, 0, false, []), (1, 0, false, []), (2, 0, false, []), (3, 1, false, []), (4, 0, false, []), (5, 0, false, []), (6, 0, false, []), (7, 1, false, []), (8, 0, false, []), (9, 0, false, []), (10, 0, false, []), (11, 0, false, []), (12, 1, false, []), (13, 0, false, []), (14, 0, false, []), (15, 0, false, []), (16, 1, false, []), (17, 0, false, []), (18, 0, false, []), (19, 0, false, [])] else bif Nat.beq i 13 then [(0, 0, false, []), (1, 0, false, []), (2, 0, false, []), (3, 1, false, []), (4, 0, false, []), (5, 0, false, []), (6, 0, false, []), (7, 1, false, []), (8, 2, false, [])] else bif Nat.beq i 15 then [(0, 0, false, []), (1, 0, false, []), (2, 0, false, []), (3, 0, false, []), (4, 1, false, []), (5, 0, false, []), (6, 0, false, []), (7, 0, false, [])] else []
abbrev rosbook_Book_Apart : FuncId := 50
theorem rosbook_Book_Apart_f : Go.Proofs.Tryz.prog.funcs[rosbook_Book_Apart]? = some Go.Proofs.Tryz.f50 := Go.Proofs.Tryz.func50
theorem rosbook_Book_Apart_is : IsFn Go.Proofs.Tryz.prog rosbook_Book_Apart := ⟨_, Go.Proofs.Tryz.func50, rfl, by kernel_rfl⟩
abbrev rosref1_Shelf_Arc : FuncId := 51
theorem rosref1_Shelf_Arc_f : Go.Proofs.Tryz.prog.funcs[rosref1_Shelf_Arc]? = some Go.Proofs.Tryz.f51 := Go.Proofs.Tryz.func51
theorem rosref1_Shelf_Arc_is : IsFn Go.Proofs.Tryz.prog rosref1_Shelf_Arc := ⟨_, Go.Proofs.Tryz.func51, rfl, by kernel_rfl⟩
abbrev rosref10_Holds : FuncId := 52
theorem rosref10_Holds_f : Go.Proofs.Tryz.prog.funcs[rosref10_Holds]? = some Go.Proofs.Tryz.f52 := Go.Proofs.Tryz.func52
theorem rosref10_Holds_is : IsFn Go.Proofs.Tryz.prog rosref10_Holds := ⟨_, Go.Proofs.Tryz.func52, rfl, by kernel_rfl⟩
abbrev rosref10_Hold_Own : FuncId := 53
theorem rosref10_Hold_Own_f : Go.Proofs.Tryz.prog.funcs[rosref10_Hold_Own]? = some Go.Proofs.Tryz.f53 := Go.Proofs.Tryz.func53
theorem rosref10_Hold_Own_is : IsFn Go.Proofs.Tryz.prog rosref10_Hold_Own := ⟨_, Go.Proofs.Tryz.func53, rfl, by kernel_rfl⟩
def rosref10_Hold_Own_a3 : List (Nat × Nat × Bool × List Nat) := [(0, 0, false, []), (1, 0, false, []), (2, 0, false, []), (3, 0, false, []), (4, 1, false, []), (6, 1, true, []), (7, 0, false, []), (8, 0, false, []), (9, 0, false, []), (10, 1, true, []), (11, 0, false, []), (12, 0, false, []), (5, 2, false, [6, 10]), (13, 2, false, []), (14, 2, false, []), (15, 0, false, []), (16, 0, false, []), (17, 2, false, [])]
def rosref10_Hold_Own_b3 : List (Nat × Nat × Bool × List Nat) := [(0, 0, false, []), (1, 0, false, []), (2, 0, false, []), (3, 0, false, []), (4, 1, true, []), (6, 1, true, []), (7, 0, false, []), (8, 0, false, []), (9, 0, false, []), (10, 1, true, []), (11, 0, false, []), (12, 0, false, []), (13, 2, false, [4]), (5, 2, false, [6, 10]), (14, 2, false, []), (15, 0, false, []), (16, 0, false, []), (17, 2, false, [])]
abbrev cut_Chunks : FuncId := 54
theorem cut_Chunks_f : Go.Proofs.Tryz.prog.funcs[cut_Chunks]? = some Go.Proofs.Tryz.f54 := Go.Proofs.Tryz.func54
theorem cut_Chunks_is : IsFn Go.Proofs.Tryz.prog cut_Chunks := ⟨_, Go.Proofs.Tryz.func54, rfl, by kernel_rfl⟩
abbrev give_Give_letter : FuncId := 55
theorem give_Give_letter_f : Go.Proofs.Tryz.prog.funcs[give_Give_letter]? = some Go.Proofs.Tryz.f55 := Go.Proofs.Tryz.func55
theorem give_Give_letter_is : IsFn Go.Proofs.Tryz.prog give_Give_letter := ⟨_, Go.Proofs.Tryz.func55, rfl, by kernel_rfl⟩
def give_Give_letter_d (i : Nat) : List (Nat × Nat × Bool × List Nat) := bif Nat.beq i 1 then [(0, 0, false, []), (1, 0, false, []), (2, 0, false, []), (3, 0, false, []), (4, 1, false, []), (5, 0, false, []), (6, 0, false, []), (7, 0, false, []), (8, 1, false, []), (9, 0, false, []), (10, 0, false, []), (11, 0, false, []), (12, 1, false, []), (13, 0, false, []), (14, 2, false, [])] else []
abbrev arc_Whole : FuncId := 56
theorem arc_Whole_f : Go.Proofs.Tryz.prog.funcs[arc_Whole]? = some Go.Proofs.Tryz.f56 := Go.Proofs.Tryz.func56
theorem arc_Whole_is : IsFn Go.Proofs.Tryz.prog arc_Whole := ⟨_, Go.Proofs.Tryz.func56, rfl, by kernel_rfl⟩
abbrev arc_Size : FuncId := 57
theorem arc_Size_f : Go.Proofs.Tryz.prog.funcs[arc_Size]? = some Go.Proofs.Tryz.f57 := Go.Proofs.Tryz.func57
theorem arc_Size_is : IsFn Go.Proofs.Tryz.prog arc_Size := ⟨_, Go.Proofs.Tryz.func57, rfl, by kernel_rfl⟩
abbrev shelf_New : FuncId := 58
theorem shelf_New_f : Go.Proofs.Tryz.prog.funcs[shelf_New]? = some Go.Proofs.Tryz.f58 := Go.Proofs.Tryz.func58
theorem shelf_New_is : IsFn Go.Proofs.Tryz.prog shelf_New := ⟨_, Go.Proofs.Tryz.func58, rfl, by kernel_rfl⟩
abbrev hold_Hold_may : FuncId := 59
theorem hold_Hold_may_f : Go.Proofs.Tryz.prog.funcs[hold_Hold_may]? = some Go.Proofs.Tryz.f59 := Go.Proofs.Tryz.func59
theorem hold_Hold_may_is : IsFn Go.Proofs.Tryz.prog hold_Hold_may := ⟨_, Go.Proofs.Tryz.func59, rfl, by kernel_rfl⟩
abbrev arc_Pieces : FuncId := 60
theorem arc_Pieces_f : Go.Proofs.Tryz.prog.funcs[arc_Pieces]? = some Go.Proofs.Tryz.f60 := Go.Proofs.Tryz.func60
theorem arc_Pieces_is : IsFn Go.Proofs.Tryz.prog arc_Pieces := ⟨_, Go.Proofs.Tryz.func60, rfl, by kernel_rfl⟩
abbrev slices_ContainsFunc_Owned : FuncId := 61
theorem slices_ContainsFunc_Owned_f : Go.Proofs.Tryz.prog.funcs[slices_ContainsFunc_Owned]? = some Go.Proofs.Tryz.f61 := Go.Proofs.Tryz.func61
theorem slices_ContainsFunc_Owned_is : IsFn Go.Proofs.Tryz.prog slices_ContainsFunc_Owned := ⟨_, Go.Proofs.Tryz.func61, rfl, by kernel_rfl⟩
abbrev take_Offered_1 : FuncId := 62
theorem take_Offered_1_f : Go.Proofs.Tryz.prog.funcs[take_Offered_1]? = some Go.Proofs.Tryz.f62 := Go.Proofs.Tryz.func62
theorem take_Offered_1_is : IsFn Go.Proofs.Tryz.prog take_Offered_1 := ⟨_, Go.Proofs.Tryz.func62, rfl, by kernel_rfl⟩
abbrev arc_Apart : FuncId := 63
theorem arc_Apart_f : Go.Proofs.Tryz.prog.funcs[arc_Apart]? = some Go.Proofs.Tryz.f63 := Go.Proofs.Tryz.func63
theorem arc_Apart_is : IsFn Go.Proofs.Tryz.prog arc_Apart := ⟨_, Go.Proofs.Tryz.func63, rfl, by kernel_rfl⟩
abbrev take_Take_tell : FuncId := 64
theorem take_Take_tell_f : Go.Proofs.Tryz.prog.funcs[take_Take_tell]? = some Go.Proofs.Tryz.f64 := Go.Proofs.Tryz.func64
theorem take_Take_tell_is : IsFn Go.Proofs.Tryz.prog take_Take_tell := ⟨_, Go.Proofs.Tryz.func64, rfl, by kernel_rfl⟩
def take_Take_tell_d (i : Nat) : List (Nat × Nat × Bool × List Nat) := bif Nat.beq i 1 then [(0, 0, false, []), (1, 0, false, []), (2, 0, false, []), (3, 0, false, []), (4, 1, false, []), (5, 0, false, []), (6, 0, false, []), (7, 0, false, []), (8, 1, false, []), (9, 0, false, []), (10, 0, false, []), (11, 0, false, []), (12, 1, false, []), (13, 0, false, []), (14, 0, false, []), (15, 2, false, []), (16, 0, false, [])] else []
abbrev shelf_Shelf_Len : FuncId := 65
theorem shelf_Shelf_Len_f : Go.Proofs.Tryz.prog.funcs[shelf_Shelf_Len]? = some Go.Proofs.Tryz.f65 := Go.Proofs.Tryz.func65
theorem shelf_Shelf_Len_is : IsFn Go.Proofs.Tryz.prog shelf_Shelf_Len := ⟨_, Go.Proofs.Tryz.func65, rfl, by kernel_rfl⟩
abbrev take_Take_lie : FuncId := 66
theorem take_Take_lie_f : Go.Proofs.Tryz.prog.funcs[take_Take_lie]? = some Go.Proofs.Tryz.f66 := Go.Proofs.Tryz.func66
theorem take_Take_lie_is : IsFn Go.Proofs.Tryz.prog take_Take_lie := ⟨_, Go.Proofs.Tryz.func66, rfl, by kernel_rfl⟩
def take_Take_lie_d (i : Nat) : List (Nat × Nat × Bool × List Nat) := bif Nat.beq i 5 then [(0, 0, false, []), (1, 0, false, []), (2, 0, false, []), (3, 1, true, []), (4, 0, false, []), (5, 1, false, []), (6, 2, false, [3]), (7, 2, false, []), (8, 0, false, [])] else []
abbrev hold_Hold_Win : FuncId := 67
theorem hold_Hold_Win_f : Go.Proofs.Tryz.prog.funcs[hold_Hold_Win]? = some Go.Proofs.Tryz.f67 := Go.Proofs.Tryz.func67
theorem hold_Hold_Win_is : IsFn Go.Proofs.Tryz.prog hold_Hold_Win := ⟨_, Go.Proofs.Tryz.func67, rfl, by kernel_rfl⟩
abbrev hold_Hold_Release : FuncId := 68
theorem hold_Hold_Release_f : Go.Proofs.Tryz.prog.funcs[hold_Hold_Release]? = some Go.Proofs.Tryz.f68 := Go.Proofs.Tryz.func68
theorem hold_Hold_Release_is : IsFn Go.Proofs.Tryz.prog hold_Hold_Release := ⟨_, Go.Proofs.Tryz.func68, rfl, by kernel_rfl⟩
abbrev view_View_Learn : FuncId := 69
theorem view_View_Learn_f : Go.Proofs.Tryz.prog.funcs[view_View_Learn]? = some Go.Proofs.Tryz.f69 := Go.Proofs.Tryz.func69
theorem view_View_Learn_is : IsFn Go.Proofs.Tryz.prog view_View_Learn := ⟨_, Go.Proofs.Tryz.func69, rfl, by kernel_rfl⟩
def view_View_Learn_d (i : Nat) : List (Nat × Nat × Bool × List Nat) := bif Nat.beq i 14 then [(0, 0, false, []), (1, 0, false, []), (2, 0, false, []), (3, 1, false, []), (4, 0, false, []), (5, 0, false, []), (6, 0, false, []), (7, 0, false, []), (8, 1, false, []), (9, 0, false, []), (10, 0, false, []), (11, 1, false, []), (12, 0, false, []), (13, 1, true, []), (14, 0, false, []), (15, 0, false, []), (16, 2, false, [13]), (17, 0, false, []), (18, 0, false, []), (19, 2, false, [])] else []
abbrev view_View_All : FuncId := 70
theorem view_View_All_f : Go.Proofs.Tryz.prog.funcs[view_View_All]? = some Go.Proofs.Tryz.f70 := Go.Proofs.Tryz.func70
theorem view_View_All_is : IsFn Go.Proofs.Tryz.prog view_View_All := ⟨_, Go.Proofs.Tryz.func70, rfl, by kernel_rfl⟩
abbrev hold_right : FuncId := 71
theorem hold_right_f : Go.Proofs.Tryz.prog.funcs[hold_right]? = some Go.Proofs.Tryz.f71 := Go.Proofs.Tryz.func71
theorem hold_right_is : IsFn Go.Proofs.Tryz.prog hold_right := ⟨_, Go.Proofs.Tryz.func71, rfl, by kernel_rfl⟩
abbrev key_Addr : FuncId := 72
theorem key_Addr_f : Go.Proofs.Tryz.prog.funcs[key_Addr]? = some Go.Proofs.Tryz.f72 := Go.Proofs.Tryz.func72
theorem key_Addr_is : IsFn Go.Proofs.Tryz.prog key_Addr := ⟨_, Go.Proofs.Tryz.func72, rfl, by kernel_rfl⟩
abbrev gate_Gate_Where : FuncId := 73
theorem gate_Gate_Where_f : Go.Proofs.Tryz.prog.funcs[gate_Gate_Where]? = some Go.Proofs.Tryz.f73 := Go.Proofs.Tryz.func73
theorem gate_Gate_Where_is : IsFn Go.Proofs.Tryz.prog gate_Gate_Where := ⟨_, Go.Proofs.Tryz.func73, rfl, by kernel_rfl⟩
abbrev gate_Gate_Frozen : FuncId := 74
theorem gate_Gate_Frozen_f : Go.Proofs.Tryz.prog.funcs[gate_Gate_Frozen]? = some Go.Proofs.Tryz.f74 := Go.Proofs.Tryz.func74
theorem gate_Gate_Frozen_is : IsFn Go.Proofs.Tryz.prog gate_Gate_Frozen := ⟨_, Go.Proofs.Tryz.func74, rfl, by kernel_rfl⟩
abbrev hold_Hold_put : FuncId := 75
theorem hold_Hold_put_f : Go.Proofs.Tryz.prog.funcs[hold_Hold_put]? = some Go.Proofs.Tryz.f75 := Go.Proofs.Tryz.func75
theorem hold_Hold_put_is : IsFn Go.Proofs.Tryz.prog hold_Hold_put := ⟨_, Go.Proofs.Tryz.func75, rfl, by kernel_rfl⟩
def hold_Hold_put_d (i : Nat) : List (Nat × Nat × Bool × List Nat) := bif Nat.beq i 5 then [(0, 0, false, []), (1, 0, false, []), (2, 0, false, []), (3, 0, false, []), (4, 0, false, []), (5, 0, false, []), (6, 1, false, []), (8, 0, false, []), (9, 0, false, []), (10, 0, false, []), (11, 1, true, []), (13, 0, false, []), (14, 0, false, []), (15, 0, false, []), (16, 1, true, []), (7, 2, false, [11, 16]), (12, 0, false, []), (17, 0, false, []), (18, 0, false, [])] else []
abbrev hold_Hold_scan : FuncId := 76
theorem hold_Hold_scan_f : Go.Proofs.Tryz.prog.funcs[hold_Hold_scan]? = some Go.Proofs.Tryz.f76 := Go.Proofs.Tryz.func76
theorem hold_Hold_scan_is : IsFn Go.Proofs.Tryz.prog hold_Hold_scan := ⟨_, Go.Proofs.Tryz.func76, rfl, by kernel_rfl⟩
def hold_Hold_scan_d (i : Nat) : List (Nat × Nat × Bool × List Nat) := bif Nat.beq i 3 then [(0, 0, false, []), (1, 0, false, []), (2, 0, false, []), (3, 1, false, []), (4, 0, false, []), (5, 1, false, []), (6, 0, false, []), (7, 1, false, []), (8, 2, false, [])] else bif Nat.beq i 6 then [(0, 1, false, []), (1, 0, false, []), (2, 0, false, []), (3, 0, false, []), (5, 1, true, []), (4, 2, false, [5]), (6, 0, false, []), (7, 0, false, []), (8, 0, false, [])] else []
abbrev shelf_Shelf_Get : FuncId := 77
theorem shelf_Shelf_Get_f : Go.Proofs.Tryz.prog.funcs[shelf_Shelf_Get]? = some Go.Proofs.Tryz.f77 := Go.Proofs.Tryz.func77
theorem shelf_Shelf_Get_is : IsFn Go.Proofs.Tryz.prog shelf_Shelf_Get := ⟨_, Go.Proofs.Tryz.func77, rfl, by kernel_rfl⟩
abbrev shelf_Shelf_Del : FuncId := 78
theorem shelf_Shelf_Del_f : Go.Proofs.Tryz.prog.funcs[shelf_Shelf_Del]? = some Go.Proofs.Tryz.f78 := Go.Proofs.Tryz.func78
theorem shelf_Shelf_Del_is : IsFn Go.Proofs.Tryz.prog shelf_Shelf_Del := ⟨_, Go.Proofs.Tryz.func78, rfl, by kernel_rfl⟩
abbrev hold_Hold_at : FuncId := 79
theorem hold_Hold_at_f : Go.Proofs.Tryz.prog.funcs[hold_Hold_at]? = some Go.Proofs.Tryz.f79 := Go.Proofs.Tryz.func79
theorem hold_Hold_at_is : IsFn Go.Proofs.Tryz.prog hold_Hold_at := ⟨_, Go.Proofs.Tryz.func79, rfl, by kernel_rfl⟩
abbrev arc_In : FuncId := 80
theorem arc_In_f : Go.Proofs.Tryz.prog.funcs[arc_In]? = some Go.Proofs.Tryz.f80 := Go.Proofs.Tryz.func80
theorem arc_In_is : IsFn Go.Proofs.Tryz.prog arc_In := ⟨_, Go.Proofs.Tryz.func80, rfl, by kernel_rfl⟩
def arc_In_d (i : Nat) : List (Nat × Nat × Bool × List Nat) := bif Nat.beq i 1 then [(0, 1, false, []), (1, 2, false, []), (2, 0, false, []), (3, 0, false, []), (4, 0, false, []), (5, 1, true, []), (6, 0, false, []), (7, 1, false, []), (8, 2, false, [5]), (9, 0, false, []), (10, 0, false, []), (11, 0, false, [])] else []
abbrev gate_Gate_Arc : FuncId := 81
theorem gate_Gate_Arc_f : Go.Proofs.Tryz.prog.funcs[gate_Gate_Arc]? = some Go.Proofs.Tryz.f81 := Go.Proofs.Tryz.func81
theorem gate_Gate_Arc_is : IsFn Go.Proofs.Tryz.prog gate_Gate_Arc := ⟨_, Go.Proofs.Tryz.func81, rfl, by kernel_rfl⟩
def gate_Gate_Arc_d (i : Nat) : List (Nat × Nat × Bool × List Nat) := bif Nat.beq i 3 then [(0, 0, false, []), (1, 0, false, []), (2, 0, false, []), (3, 1, false, []), (4, 0, false, []), (5, 0, false, []), (6, 0, false, []), (7, 1, true, []), (8, 2, false, [7]), (9, 0, false, [])] else []
abbrev hold_Hold_all : FuncId := 82
theorem hold_Hold_all_f : Go.Proofs.Tryz.prog.funcs[hold_Hold_all]? = some Go.Proofs.Tryz.f82 := Go.Proofs.Tryz.func82
theorem hold_Hold_all_is : IsFn Go.Proofs.Tryz.prog hold_Hold_all := ⟨_, Go.Proofs.Tryz.func82, rfl, by kernel_rfl⟩
abbrev gate_Gate_Freeze : FuncId := 83
theorem gate_Gate_Freeze_f : Go.Proofs.Tryz.prog.funcs[gate_Gate_Freeze]? = some Go.Proofs.Tryz.f83 := Go.Proofs.Tryz.func83
theorem gate_Gate_Freeze_is : IsFn Go.Proofs.Tryz.prog gate_Gate_Freeze := ⟨_, Go.Proofs.Tryz.func83, rfl, by kernel_rfl⟩
def gate_Gate_Freeze_d (i : Nat) : List (Nat × Nat × Bool × List Nat) := bif Nat.beq i 3 then [(0, 0, false, []), (1, 0, false, []), (2, 1, true, []), (3, 0, false, []), (4, 0, false, []), (5, 2, false, [2]), (6, 0, false, []), (7, 0, false, []), (8, 2, false, [])] else []
abbrev walk_Collect : FuncId := 84
theorem walk_Collect_f : Go.Proofs.Tryz.prog.funcs[walk_Collect]? = some Go.Proofs.Tryz.f84 := Go.Proofs.Tryz.func84
theorem walk_Collect_is : IsFn Go.Proofs.Tryz.prog walk_Collect := ⟨_, Go.Proofs.Tryz.func84, rfl, by kernel_rfl⟩
abbrev walk_Arc : FuncId := 85
theorem walk_Arc_f : Go.Proofs.Tryz.prog.funcs[walk_Arc]? = some Go.Proofs.Tryz.f85 := Go.Proofs.Tryz.func85
theorem walk_Arc_is : IsFn Go.Proofs.Tryz.prog walk_Arc := ⟨_, Go.Proofs.Tryz.func85, rfl, by kernel_rfl⟩
abbrev hold_less : FuncId := 86
theorem hold_less_f : Go.Proofs.Tryz.prog.funcs[hold_less]? = some Go.Proofs.Tryz.f86 := Go.Proofs.Tryz.func86
theorem hold_less_is : IsFn Go.Proofs.Tryz.prog hold_less := ⟨_, Go.Proofs.Tryz.func86, rfl, by kernel_rfl⟩
abbrev cut_Out : FuncId := 87
theorem cut_Out_f : Go.Proofs.Tryz.prog.funcs[cut_Out]? = some Go.Proofs.Tryz.f87 := Go.Proofs.Tryz.func87
theorem cut_Out_is : IsFn Go.Proofs.Tryz.prog cut_Out := ⟨_, Go.Proofs.Tryz.func87, rfl, by kernel_rfl⟩
abbrev gate_Gate_Thaw : FuncId := 88
theorem gate_Gate_Thaw_f : Go.Proofs.Tryz.prog.funcs[gate_Gate_Thaw]? = some Go.Proofs.Tryz.f88 := Go.Proofs.Tryz.func88
theorem gate_Gate_Thaw_is : IsFn Go.Proofs.Tryz.prog gate_Gate_Thaw := ⟨_, Go.Proofs.Tryz.func88, rfl, by kernel_rfl⟩
abbrev gate_Gate_Point : FuncId := 89
theorem gate_Gate_Point_f : Go.Proofs.Tryz.prog.funcs[gate_Gate_Point]? = some Go.Proofs.Tryz.f89 := Go.Proofs.Tryz.func89
theorem gate_Gate_Point_is : IsFn Go.Proofs.Tryz.prog gate_Gate_Point := ⟨_, Go.Proofs.Tryz.func89, rfl, by kernel_rfl⟩
def gate_Gate_Point_d (i : Nat) : List (Nat × Nat × Bool × List Nat) := bif Nat.beq i 2 then [(0, 0, false, []), (1, 0, false, []), (2, 0, false, []), (3, 0, false, []), (4, 1, true, []), (5, 1, false, []), (6, 0, false, []), (7, 0, false, []), (8, 2, false, [4]), (9, 2, false, []), (10, 0, false, []), (11, 0, false, []), (12, 2, false, [])] else []
abbrev gate_Gate_Tick : FuncId := 90
theorem gate_Gate_Tick_f : Go.Proofs.Tryz.prog.funcs[gate_Gate_Tick]? = some Go.Proofs.Tryz.f90 := Go.Proofs.Tryz.func90
theorem gate_Gate_Tick_is : IsFn Go.Proofs.Tryz.prog gate_Gate_Tick := ⟨_, Go.Proofs.Tryz.func90, rfl, by kernel_rfl⟩
abbrev give_Give_next : FuncId := 91
theorem give_Give_next_f : Go.Proofs.Tryz.prog.funcs[give_Give_next]? = some Go.Proofs.Tryz.f91 := Go.Proofs.Tryz.func91
theorem give_Give_next_is : IsFn Go.Proofs.Tryz.prog give_Give_next := ⟨_, Go.Proofs.Tryz.func91, rfl, by kernel_rfl⟩
def give_Give_next_d (i : Nat) : List (Nat × Nat × Bool × List Nat) := bif Nat.beq i 4 then [(0, 1, false, []), (1, 1, true, []), (2, 0, false, []), (3, 0, false, []), (4, 0, false, []), (5, 2, false, [1]), (6, 0, false, []), (7, 0, false, []), (8, 2, false, [])] else bif Nat.beq i 10 then [(0, 1, false, []), (1, 0, false, []), (2, 0, false, []), (3, 1, false, []), (4, 1, true, []), (5, 0, false, []), (6, 0, false, []), (7, 1, true, []), (8, 0, false, []), (9, 2, false, [4, 7]), (10, 0, false, []), (11, 2, false, [])] else []
abbrev hold_Hold_Thaw : FuncId := 92
theorem hold_Hold_Thaw_f : Go.Proofs.Tryz.prog.funcs[hold_Hold_Thaw]? = some Go.Proofs.Tryz.f92 := Go.Proofs.Tryz.func92
theorem hold_Hold_Thaw_is : IsFn Go.Proofs.Tryz.prog hold_Hold_Thaw := ⟨_, Go.Proofs.Tryz.func92, rfl, by kernel_rfl⟩
abbrev give_Give_over : FuncId := 93
theorem give_Give_over_f : Go.Proofs.Tryz.prog.funcs[give_Give_over]? = some Go.Proofs.Tryz.f93 := Go.Proofs.Tryz.func93
theorem give_Give_over_is : IsFn Go.Proofs.Tryz.prog give_Give_over := ⟨_, Go.Proofs.Tryz.func93, rfl, by kernel_rfl⟩
abbrev shelf_Shelf_Items : FuncId := 94
theorem shelf_Shelf_Items_f : Go.Proofs.Tryz.prog.funcs[shelf_Shelf_Items]? = some Go.Proofs.Tryz.f94 := Go.Proofs.Tryz.func94
theorem shelf_Shelf_Items_is : IsFn Go.Proofs.Tryz.prog shelf_Shelf_Items := ⟨_, Go.Proofs.Tryz.func94, rfl, by kernel_rfl⟩
abbrev rosbook_SameOwneds : FuncId := 95
theorem rosbook_SameOwneds_f : Go.Proofs.Tryz.prog.funcs[rosbook_SameOwneds]? = some Go.Proofs.Tryz.f95 := Go.Proofs.Tryz.func95
theorem rosbook_SameOwneds_is : IsFn Go.Proofs.Tryz.prog rosbook_SameOwneds := ⟨_, Go.Proofs.Tryz.func95, rfl, by kernel_rfl⟩
def rosbook_SameOwneds_d (i : Nat) : List (Nat × Nat × Bool × List Nat) := bif Nat.beq i 6 then [(0, 0, false, []), (1, 0, false, []), (2, 0, false, []), (3, 1, false, []), (4, 0, false, []), (5, 0, false, []), (6, 0, false, []), (7, 1, false, []), (8, 0, false, []), (9, 0, false, [])] else []
abbrev rosref10_Hold_Arcs : FuncId := 96
theorem rosref10_Hold_Arcs_f : Go.Proofs.Tryz.prog.funcs[rosref10_Hold_Arcs]? = some Go.Proofs.Tryz.f96 := Go.Proofs.Tryz.func96
theorem rosref10_Hold_Arcs_is : IsFn Go.Proofs.Tryz.prog rosref10_Hold_Arcs := ⟨_, Go.Proofs.Tryz.func96, rfl, by kernel_rfl⟩
abbrev rosref10_Hold_Pieces : FuncId := 97
theorem rosref10_Hold_Pieces_f : Go.Proofs.Tryz.prog.funcs[rosref10_Hold_Pieces]? = some Go.Proofs.Tryz.f97 := Go.Proofs.Tryz.func97
theorem rosref10_Hold_Pieces_is : IsFn Go.Proofs.Tryz.prog rosref10_Hold_Pieces := ⟨_, Go.Proofs.Tryz.func97, rfl, by kernel_rfl⟩
def rosref10_Hold_Pieces_d (i : Nat) : List (Nat × Nat × Bool × List Nat) := bif Nat.beq i 14 then [(0, 0, false, []), (1, 0, false, []), (2, 0, false, []), (3, 0, false, []), (4, 1, false, []), (5, 0, false, []), (6, 0, false, []), (7, 0, false, []), (8, 1, false, []), (9, 0, false, []), (10, 0, false, []), (11, 0, false, []), (12, 0, false, []), (13, 1, false, []), (14, 2, false, [])] else bif Nat.beq i 15 then [(0, 0, false, []), (1, 0, false, []), (2, 0, false, []), (3, 0, false, []), (4, 0, false, []), (5, 0, false, []), (6, 1, false, []), (7, 0, false, []), (8, 0, false, []), (9, 0, false, []), (10, 1, false, []), (11, 0, false, []), (12, 0, false, []), (13, 0, false, []), (14, 1, false, []), (15, 0, false, []), (16, 0, false, []), (17, 0, false, []), (18, 2, false, [])] else []
abbrev rosref10_Hold_Epoch : FuncId := 98
theorem rosref10_Hold_Epoch_f : Go.Proofs.Tryz.prog.funcs[rosref10_Hold_Epoch]? = some Go.Proofs.Tryz.f98 := Go.Proofs.Tryz.func98
theorem rosref10_Hold_Epoch_is : IsFn Go.Proofs.Tryz.prog rosref10_Hold_Epoch := ⟨_, Go.Proofs.Tryz.func98, rfl, by kernel_rfl⟩
abbrev rosref10_Hold_Freeze : FuncId := 99
theorem rosref10_Hold_Freeze_f : Go.Proofs.Tryz.prog.funcs[rosref10_Hold_Freeze]? = some Go.Proofs.Tryz.f99 := Go.Proofs.Tryz.func99
theorem rosref10_Hold_Freeze_is : IsFn Go.Proofs.Tryz.prog rosref10_Hold_Freeze := ⟨_, Go.Proofs.Tryz.func99, rfl, by kernel_rfl⟩
def rosref10_Hold_Freeze_d (i : Nat) : List (Nat × Nat × Bool × List Nat) := bif Nat.beq i 6 then [(0, 0, false, []), (1, 0, false, []), (2, 1, true, []), (3, 0, false, []), (4, 0, false, []), (5, 0, false, []), (6, 2, false, [2]), (7, 0, false, []), (8, 0, false, []), (9, 0, false, []), (10, 2, false, [])] else bif Nat.beq i 7 then [(0, 0, false, []), (1, 0, false, []), (2, 0, false, []), (3, 1, false, []), (4, 1, false, []), (6, 0, false, []), (5, 2, false, []), (7, 0, false, []), (8, 0, false, []), (9, 0, false, [])] else []
abbrev rosref10_Give_letter : FuncId := 100
theorem rosref10_Give_letter_f : Go.Proofs.Tryz.prog.funcs[rosref10_Give_letter]? = some Go.Proofs.Tryz.f100 := Go.Proofs.Tryz.func100
theorem rosref10_Give_letter_is : IsFn Go.Proofs.Tryz.prog rosref10_Give_letter := ⟨_, Go.Proofs.Tryz.func100, rfl, by kernel_rfl⟩
def rosref10_Give_letter_d (i : Nat) : List (Nat × Nat × Bool × List Nat) := bif Nat.beq i 1 then [(0, 0, false, []), (1, 0, false, []), (2, 0, false, []), (3, 0, false, []), (4, 1, false, []), (5, 0, false, []), (6, 0, false, []), (7, 0, false, []), (8, 1, false, []), (9, 0, false, []), (10, 0, false, []), (11, 0, false, []), (12, 1, false, []), (13, 0, false, []), (14, 2, false, [])] else []
abbrev rosbook_SameLetter : FuncId := 101
theorem rosbook_SameLetter_f : Go.Proofs.Tryz.prog.funcs[rosbook_SameLetter]? = some Go.Proofs.Tryz.f101 := Go.Proofs.Tryz.func101
theorem rosbook_SameLetter_is : IsFn Go.Proofs.Tryz.prog rosbook_SameLetter := ⟨_, Go.Proofs.Tryz.func101, rfl, by kernel_rfl⟩
abbrev rosbook_copyLetters : FuncId := 102
theorem rosbook_copyLetters_f : Go.Proofs.Tryz.prog.funcs[rosbook_copyLetters]? = some Go.Proofs.Tryz.f102 := Go.Proofs.Tryz.func102
theorem rosbook_copyLetters_is : IsFn Go.Proofs.Tryz.prog rosbook_copyLetters := ⟨_, Go.Proofs.Tryz.func102, rfl, by kernel_rfl⟩
def rosbook_copyLetters_d (i : Nat) : List (Nat × Nat × Bool × List Nat) := bif Nat.beq i 5 then [(0, 0, false, []), (1, 0, false, []), (2, 0, false, []), (3, 0, false, []), (4, 0, false, []), (5, 0, false, []), (6, 0, false, []), (7, 0, false, []), (8, 1, false, []), (10, 0, false, []), (11, 0, false, []), (12, 0, false, []), (13, 0, false, []), (14, 0, false, []), (15, 1, true, []), (9, 2, false, [15]), (16, 2, false, []), (17, 0, false, []), (18, 0, false, []), (19, 2, false, []), (20, 0, false, []), (21, 0, false, []), (22, 0, false, []), (23, 2, false, [])] else []
abbrev rosref10_Hold_Thaw : FuncId := 103
theorem rosref10_Hold_Thaw_f : Go.Proofs.Tryz.prog.funcs[rosref10_Hold_Thaw]? = some Go.Proofs.Tryz.f103 := Go.Proofs.Tryz.func103
theorem rosref10_Hold_Thaw_is : IsFn Go.Proofs.Tryz.prog rosref10_Hold_Thaw := ⟨_, Go.Proofs.Tryz.func103, rfl, by kernel_rfl⟩
abbrev rosref1_Key : FuncId := 104
theorem rosref1_Key_f : Go.Proofs.Tryz.prog.funcs[rosref1_Key]? = some Go.Proofs.Tryz.f104 := Go.Proofs.Tryz.func104
theorem rosref1_Key_is : IsFn Go.Proofs.Tryz.prog rosref1_Key := ⟨_, Go.Proofs.Tryz.func104, rfl, by kernel_rfl⟩
abbrev rosref10_Hold_Has : FuncId := 105
theorem rosref10_Hold_Has_f : Go.Proofs.Tryz.prog.funcs[rosref10_Hold_Has]? = some Go.Proofs.Tryz.f105 := Go.Proofs.Tryz.func105
theorem rosref10_Hold_Has_is : IsFn Go.Proofs.Tryz.prog rosref10_Hold_Has := ⟨_, Go.Proofs.Tryz.func105, rfl, by kernel_rfl⟩
abbrev rosref10_Gate_Where : FuncId := 106
theorem rosref10_Gate_Where_f : Go.Proofs.Tryz.prog.funcs[rosref10_Gate_Where]? = some Go.Proofs.Tryz.f106 := Go.Proofs.Tryz.func106
theorem rosref10_Gate_Where_is : IsFn Go.Proofs.Tryz.prog rosref10_Gate_Where := ⟨_, Go.Proofs.Tryz.func106, rfl, by kernel_rfl⟩
abbrev rosref10_Gate_Frozen : FuncId := 107
theorem rosref10_Gate_Frozen_f : Go.Proofs.Tryz.prog.funcs[rosref10_Gate_Frozen]? = some Go.Proofs.Tryz.f107 := Go.Proofs.Tryz.func107
theorem rosref10_Gate_Frozen_is : IsFn Go.Proofs.Tryz.prog rosref10_Gate_Frozen := ⟨_, Go.Proofs.Tryz.func107, rfl, by kernel_rfl⟩
abbrev rosref1_Shelf_At : FuncId := 108
theorem rosref1_Shelf_At_f : Go.Proofs.Tryz.prog.funcs[rosref1_Shelf_At]? = some Go.Proofs.Tryz.f108 := Go.Proofs.Tryz.func108
theorem rosref1_Shelf_At_is : IsFn Go.Proofs.Tryz.prog rosref1_Shelf_At := ⟨_, Go.Proofs.Tryz.func108, rfl, by kernel_rfl⟩
def rosref1_Shelf_At_d (i : Nat) : List (Nat × Nat × Bool × List Nat) := bif Nat.beq i 4 then [(0, 0, false, []), (1, 0, false, []), (2, 0, false, []), (3, 0, false, []), (4, 0, false, []), (5, 1, false, []), (6, 0, false, []), (7, 0, false, []), (8, 0, false, []), (9, 0, false, []), (10, 0, false, []), (11, 0, false, []), (12, 1, false, []), (13, 0, false, []), (14, 0, false, []), (15, 0, false, []), (16, 1, false, []), (17, 0, false, []), (18, 0, false, []), (19, 0, false, []), (20, 0, false, []), (21, 0, false, [])] else []
abbrev rosref1_Value : FuncId := 109
theorem rosref1_Value_f : Go.Proofs.Tryz.prog.funcs[rosref1_Value]? = some Go.Proofs.Tryz.f109 := Go.Proofs.Tryz.func109
theorem rosref1_Value_is : IsFn Go.Proofs.Tryz.prog rosref1_Value := ⟨_, Go.Proofs.Tryz.func109, rfl, by kernel_rfl⟩
abbrev rosref1_Shelf_Put : FuncId := 110
theorem rosref1_Shelf_Put_f : Go.Proofs.Tryz.prog.funcs[rosref1_Shelf_Put]? = some Go.Proofs.Tryz.f110 := Go.Proofs.Tryz.func110
theorem rosref1_Shelf_Put_is : IsFn Go.Proofs.Tryz.prog rosref1_Shelf_Put := ⟨_, Go.Proofs.Tryz.func110, rfl, by kernel_rfl⟩
def rosref1_Shelf_Put_d (i : Nat) : List (Nat × Nat × Bool × List Nat) := bif Nat.beq i 11 then [(0, 0, false, []), (1, 0, false, []), (2, 0, false, []), (3, 1, false, []), (4, 0, false, []), (5, 0, false, []), (6, 0, false, []), (7, 0, false, []), (8, 1, false, []), (9, 0, false, [])] else []
abbrev rosref1_Shelf_Del : FuncId := 111
theorem rosref1_Shelf_Del_f : Go.Proofs.Tryz.prog.funcs[rosref1_Shelf_Del]? = some Go.Proofs.Tryz.f111 := Go.Proofs.Tryz.func111
theorem rosref1_Shelf_Del_is : IsFn Go.Proofs.Tryz.prog rosref1_Shelf_Del := ⟨_, Go.Proofs.Tryz.func111, rfl, by kernel_rfl⟩
def rosref1_Shelf_Del_d (i : Nat) : List (Nat × Nat × Bool × List Nat) := bif Nat.beq i 3 then [(0, 0, false, []), (1, 0, false, []), (2, 0, false, []), (3, 0, false, []), (4, 1, false, []), (5, 0, false, []), (6, 0, false, []), (8, 0, false, []), (9, 0, false, []), (10, 0, false, []), (11, 1, true, []), (12, 0, false, []), (13, 0, false, []), (14, 0, false, []), (7, 2, false, [11]), (15, 2, false, []), (16, 0, false, []), (17, 0, false, []), (18, 2, false, [])] else []
abbrev rosref10_Hold_scan : FuncId := 112
theorem rosref10_Hold_scan_f : Go.Proofs.Tryz.prog.funcs[rosref10_Hold_scan]? = some Go.Proofs.Tryz.f112 := Go.Proofs.Tryz.func112
theorem rosref10_Hold_scan_is : IsFn Go.Proofs.Tryz.prog rosref10_Hold_scan := ⟨_, Go.Proofs.Tryz.func112, rfl, by kernel_rfl⟩
def rosref10_Hold_scan_d (i : Nat) : List (Nat × Nat × Bool × List Nat) := bif Nat.beq i 5 then [(0, 0, false, []), (1, 0, false, []), (2, 0, false, []), (3, 1, false, []), (4, 0, false, []), (5, 1, false, []), (6, 0, false, []), (7, 1, false, []), (8, 2, false, []), (9, 0, false, [])] else bif Nat.beq i 12 then [(0, 0, false, []), (1, 0, false, []), (2, 1, false, []), (3, 0, false, []), (4, 0, false, []), (5, 0, false, []), (6, 1, false, []), (7, 0, false, []), (8, 0, false, []), (9, 1, false, []), (10, 0, false, []), (11, 2, false, [])] else bif Nat.beq i 13 then [(0, 0, false, []), (1, 0, false, []), (2, 0, false, []), (3, 1, false, []), (4, 0, false, []), (5, 0, false, []), (6, 0, false, []), (8, 0, false, []), (9, 1, true, []), (7, 2, false, [9]), (10, 0, false, []), (11, 0, false, []), (12, 0, false, [])] else []
abbrev rosref10_Give_next : FuncId := 113
theorem rosref10_Give_next_f : Go.Proofs.Tryz.prog.funcs[rosref10_Give_next]? = some Go.Proofs.Tryz.f113 := Go.Proofs.Tryz.func113
theorem rosref10_Give_next_is : IsFn Go.Proofs.Tryz.prog rosref10_Give_next := ⟨_, Go.Proofs.Tryz.func113, rfl, by kernel_rfl⟩
def rosref10_Give_next_d (i : Nat) : List (Nat × Nat × Bool × List Nat) := bif Nat.beq i 5 then [(0, 0, false, []), (1, 0, false, []), (2, 0, false, []), (3, 1, false, []), (4, 0, false, []), (5, 0, false, []), (6, 0, false, []), (7, 1, true, []), (8, 0, false, []), (9, 2, false, [7]), (10, 0, false, []), (11, 2, false, [])] else bif Nat.beq i 9 then [(0, 0, false, []), (1, 0, false, []), (2, 0, false, []), (3, 1, false, []), (4, 0, false, []), (5, 0, false, []), (6, 0, false, []), (7, 1, true, []), (8, 0, false, []), (9, 0, false, []), (10, 0, false, []), (11, 0, false, []), (12, 0, false, []), (13, 0, false, []), (14, 1, true, []), (15, 0, false, []), (16, 0, false, []), (17, 0, false, []), (18, 0, false, []), (19, 2, false, [7, 14]), (20, 0, false, []), (21, 2, false, [])] else []
abbrev rosref10_Hold_Lose : FuncId := 114
theorem rosref10_Hold_Lose_f : Go.Proofs.Tryz.prog.funcs[rosref10_Hold_Lose]? = some Go.Proofs.Tryz.f114 := Go.Proofs.Tryz.func114
theorem rosref10_Hold_Lose_is : IsFn Go.Proofs.Tryz.prog rosref10_Hold_Lose := ⟨_, Go.Proofs.Tryz.func114, rfl, by kernel_rfl⟩
def rosref10_Hold_Lose_d (i : Nat) : List (Nat × Nat × Bool × List Nat) := bif Nat.beq i 4 then [(0, 0, false, []), (1, 0, false, []), (2, 0, false, []), (3, 1, false, []), (4, 1, false, []), (5, 2, false, [])] else bif Nat.beq i 9 then [(0, 0, false, []), (1, 0, false, []), (2, 0, false, []), (3, 1, false, []), (4, 0, false, []), (5, 0, false, []), (6, 0, false, []), (7, 1, false, []), (8, 0, false, []), (9, 0, false, []), (10, 0, false, []), (11, 1, false, []), (12, 0, false, []), (13, 0, false, []), (14, 0, false, []), (15, 1, false, []), (16, 0, false, []), (17, 2, false, [])] else bif Nat.beq i 15 then [(0, 1, false, []), (1, 0, false, []), (2, 1, false, []), (3, 0, false, []), (4, 0, false, []), (5, 0, false, []), (6, 1, false, []), (7, 2, false, [])] else bif Nat.beq i 21 then [(0, 0, false, []), (1, 0, false, []), (2, 0, false, []), (3, 1, false, []), (4, 0, false, []), (5, 0, false, []), (6, 0, false, []), (7, 0, false, []), (8, 1, false, []), (9, 0, false, []), (10, 0, false, []), (11, 2, false, [])] else bif Nat.beq i 23 then [(0, 0, false, []), (1, 0, false, []), (2, 0, false, []), (3, 1, false, []), (4, 0, false, []), (5, 2, false, [])] else []
abbrev rosbook_Book_stillTexts : FuncId := 115
theorem rosbook_Book_stillTexts_f : Go.Proofs.Tryz.prog.funcs[rosbook_Book_stillTexts]? = some Go.Proofs.Tryz.f115 := Go.Proofs.Tryz.func115
theorem rosbook_Book_stillTexts_is : IsFn Go.Proofs.Tryz.prog rosbook_Book_stillTexts := ⟨_, Go.Proofs.Tryz.func115, rfl, by kernel_rfl⟩
def rosbook_Book_stillTexts_d (i : Nat) : List (Nat × Nat × Bool × List Nat) := bif Nat.beq i 4 then [(0, 0, false, []), (1, 0, false, []), (2, 0, false, []), (3, 1, false, []), (4, 0, false, []), (5, 0, false, []), (6, 1, false, []), (7, 0, false, []), (8, 0, false, []), (9, 0, false, []), (10, 1, false, []), (11, 0, false, []), (12, 0, false, []), (13, 1, false, []), (14, 2, false, []), (15, 0, false, [])] else []
abbrev rosbook_Book_stillInts : FuncId := 116
theorem rosbook_Book_stillInts_f : Go.Proofs.Tryz.prog.funcs[rosbook_Book_stillInts]? = some Go.Proofs.Tryz.f116 := Go.Proofs.Tryz.func116
theorem rosbook_Book_stillInts_is : IsFn Go.Proofs.Tryz.prog rosbook_Book_stillInts := ⟨_, Go.Proofs.Tryz.func116, rfl, by kernel_rfl⟩
def rosbook_Book_stillInts_d (i : Nat) : List (Nat × Nat × Bool × List Nat) := bif Nat.beq i 4 then [(0, 0, false, []), (1, 0, false, []), (2, 0, false, []), (3, 1, false, []), (4, 0, false, []), (5, 0, false, []), (6, 1, false, []), (7, 0, false, []), (8, 0, false, []), (9, 0, false, []), (10, 1, false, []), (11, 0, false, []), (12, 0, false, []), (13, 1, false, []), (14, 2, false, []), (15, 0, false, [])] else []
abbrev rosbook_Book_stillPoints : FuncId := 117
theorem rosbook_Book_stillPoints_f : Go.Proofs.Tryz.prog.funcs[rosbook_Book_stillPoints]? = some Go.Proofs.Tryz.f117 := Go.Proofs.Tryz.func117
theorem rosbook_Book_stillPoints_is : IsFn Go.Proofs.Tryz.prog rosbook_Book_stillPoints := ⟨_, Go.Proofs.Tryz.func117, rfl, by kernel_rfl⟩
def rosbook_Book_stillPoints_d (i : Nat) : List (Nat × Nat × Bool × List Nat) := bif Nat.beq i 4 then [(0, 0, false, []), (1, 0, false, []), (2, 0, false, []), (3, 1, false, []), (4, 0, false, []), (5, 0, false, []), (6, 1, false, []), (7, 0, false, []), (8, 0, false, []), (9, 0, false, []), (10, 1, false, []), (11, 0, false, []), (12, 0, false, []), (13, 1, false, []), (14, 2, false, []), (15, 0, false, [])] else []
abbrev rosbook_Book_stillItems : FuncId := 118
theorem rosbook_Book_stillItems_f : Go.Proofs.Tryz.prog.funcs[rosbook_Book_stillItems]? = some Go.Proofs.Tryz.f118 := Go.Proofs.Tryz.func118
theorem rosbook_Book_stillItems_is : IsFn Go.Proofs.Tryz.prog rosbook_Book_stillItems := ⟨_, Go.Proofs.Tryz.func118, rfl, by kernel_rfl⟩
def rosbook_Book_stillItems_d (i : Nat) : List (Nat × Nat × Bool × List Nat) := bif Nat.beq i 4 then [(0, 0, false, []), (1, 0, false, []), (2, 0, false, []), (3, 1, false, []), (4, 0, false, []), (5, 0, false, []), (6, 1, false, []), (7, 0, false, []), (8, 0, false, []), (9, 0, false, []), (10, 1, false, []), (11, 0, false, []), (12, 0, false, []), (13, 1, false, []), (14, 2, false, []), (15, 0, false, [])] else []
abbrev rosbook_Book_stillOwneds : FuncId := 119
theorem rosbook_Book_stillOwneds_f : Go.Proofs.Tryz.prog.funcs[rosbook_Book_stillOwneds]? = some Go.Proofs.Tryz.f119 := Go.Proofs.Tryz.func119
theorem rosbook_Book_stillOwneds_is : IsFn Go.Proofs.Tryz.prog rosbook_Book_stillOwneds := ⟨_, Go.Proofs.Tryz.func119, rfl, by kernel_rfl⟩
def rosbook_Book_stillOwneds_d (i : Nat) : List (Nat × Nat × Bool × List Nat) := bif Nat.beq i 4 then [(0, 0, false, []), (1, 0, false, []), (2, 0, false, []), (3, 1, false, []), (4, 0, false, []), (5, 0, false, []), (6, 1, false, []), (7, 0, false, []), (8, 0, false, []), (9, 0, false, []), (10, 1, false, []), (11, 0, false, []), (12, 0, false, []), (13, 1, false, []), (14, 2, false, []), (15, 0, false, [])] else []
abbrev rosbook_Book_stillEvents : FuncId := 120
theorem rosbook_Book_stillEvents_f : Go.Proofs.Tryz.prog.funcs[rosbook_Book_stillEvents]? = some Go.Proofs.Tryz.f120 := Go.Proofs.Tryz.func120
theorem rosbook_Book_stillEvents_is : IsFn Go.Proofs.Tryz.prog rosbook_Book_stillEvents := ⟨_, Go.Proofs.Tryz.func120, rfl, by kernel_rfl⟩
def rosbook_Book_stillEvents_d (i : Nat) : List (Nat × Nat × Bool × List Nat) := bif Nat.beq i 4 then [(0, 0, false, []), (1, 0, false, []), (2, 0, false, []), (3, 1, false, []), (4, 0, false, []), (5, 0, false, []), (6, 1, false, []), (7, 0, false, []), (8, 0, false, []), (9, 0, false, []), (10, 1, false, []), (11, 0, false, []), (12, 0, false, []), (13, 1, false, []), (14, 2, false, []), (15, 0, false, [])] else []
abbrev rosbook_Book_stillLetters : FuncId := 121
theorem rosbook_Book_stillLetters_f : Go.Proofs.Tryz.prog.funcs[rosbook_Book_stillLetters]? = some Go.Proofs.Tryz.f121 := Go.Proofs.Tryz.func121
theorem rosbook_Book_stillLetters_is : IsFn Go.Proofs.Tryz.prog rosbook_Book_stillLetters := ⟨_, Go.Proofs.Tryz.func121, rfl, by kernel_rfl⟩
def rosbook_Book_stillLetters_d (i : Nat) : List (Nat × Nat × Bool × List Nat) := bif Nat.beq i 4 then [(0, 0, false, []), (1, 0, false, []), (2, 0, false, []), (3, 1, false, []), (4, 0, false, []), (5, 0, false, []), (6, 1, false, []), (7, 0, false, []), (8, 0, false, []), (9, 0, false, []), (10, 1, false, []), (11, 0, false, []), (12, 0, false, []), (13, 1, false, []), (14, 2, false, []), (15, 0, false, [])] else []
abbrev rosbook_Book_putEvents : FuncId := 122
theorem rosbook_Book_putEvents_f : Go.Proofs.Tryz.prog.funcs[rosbook_Book_putEvents]? = some Go.Proofs.Tryz.f122 := Go.Proofs.Tryz.func122
theorem rosbook_Book_putEvents_is : IsFn Go.Proofs.Tryz.prog rosbook_Book_putEvents := ⟨_, Go.Proofs.Tryz.func122, rfl, by kernel_rfl⟩
def rosbook_Book_putEvents_d (i : Nat) : List (Nat × Nat × Bool × List Nat) := bif Nat.beq i 7 then [(0, 0, false, []), (1, 0, false, []), (2, 0, false, []), (3, 1, false, []), (4, 0, false, []), (5, 0, false, []), (6, 1, false, []), (7, 0, false, []), (8, 0, false, []), (9, 0, false, []), (10, 0, false, []), (11, 1, false, []), (12, 0, false, []), (13, 2, false, [])] else []
abbrev rosbook_Book_putLetters : FuncId := 123
theorem rosbook_Book_putLetters_f : Go.Proofs.Tryz.prog.funcs[rosbook_Book_putLetters]? = some Go.Proofs.Tryz.f123 := Go.Proofs.Tryz.func123
theorem rosbook_Book_putLetters_is : IsFn Go.Proofs.Tryz.prog rosbook_Book_putLetters := ⟨_, Go.Proofs.Tryz.func123, rfl, by kernel_rfl⟩
def rosbook_Book_putLetters_d (i : Nat) : List (Nat × Nat × Bool × List Nat) := bif Nat.beq i 7 then [(0, 0, false, []), (1, 0, false, []), (2, 0, false, []), (3, 1, false, []), (4, 0, false, []), (5, 0, false, []), (6, 1, false, []), (7, 0, false, []), (8, 0, false, []), (9, 0, false, []), (10, 0, false, []), (11, 1, false, []), (12, 0, false, []), (13, 2, false, [])] else []
abbrev rosbook_Book_putTexts : FuncId := 124
theorem rosbook_Book_putTexts_f : Go.Proofs.Tryz.prog.funcs[rosbook_Book_putTexts]? = some Go.Proofs.Tryz.f124 := Go.Proofs.Tryz.func124
theorem rosbook_Book_putTexts_is : IsFn Go.Proofs.Tryz.prog rosbook_Book_putTexts := ⟨_, Go.Proofs.Tryz.func124, rfl, by kernel_rfl⟩
def rosbook_Book_putTexts_d (i : Nat) : List (Nat × Nat × Bool × List Nat) := bif Nat.beq i 7 then [(0, 0, false, []), (1, 0, false, []), (2, 0, false, []), (3, 1, false, []), (4, 0, false, []), (5, 0, false, []), (6, 1, false, []), (7, 0, false, []), (8, 0, false, []), (9, 0, false, []), (10, 0, false, []), (11, 1, false, []), (12, 0, false, []), (13, 2, false, [])] else []
abbrev rosbook_Book_putInts : FuncId := 125
theorem rosbook_Book_putInts_f : Go.Proofs.Tryz.prog.funcs[rosbook_Book_putInts]? = some Go.Proofs.Tryz.f125 := Go.Proofs.Tryz.func125
theorem rosbook_Book_putInts_is : IsFn Go.Proofs.Tryz.prog rosbook_Book_putInts := ⟨_, Go.Proofs.Tryz.func125, rfl, by kernel_rfl⟩
def rosbook_Book_putInts_d (i : Nat) : List (Nat × Nat × Bool × List Nat) := bif Nat.beq i 7 then [(0, 0, false, []), (1, 0, false, []), (2, 0, false, []), (3, 1, false, []), (4, 0, false, []), (5, 0, false, []), (6, 1, false, []), (7, 0, false, []), (8, 0, false, []), (9, 0, false, []), (10, 0, false, []), (11, 1, false, []), (12, 0, false, []), (13, 2, false, [])] else []
abbrev rosbook_Book_putPoints : FuncId := 126
theorem rosbook_Book_putPoints_f : Go.Proofs.Tryz.prog.funcs[rosbook_Book_putPoints]? = some Go.Proofs.Tryz.f126 := Go.Proofs.Tryz.func126
theorem rosbook_Book_putPoints_is : IsFn Go.Proofs.Tryz.prog rosbook_Book_putPoints := ⟨_, Go.Proofs.Tryz.func126, rfl, by kernel_rfl⟩
def rosbook_Book_putPoints_d (i : Nat) : List (Nat × Nat × Bool × List Nat) := bif Nat.beq i 7 then [(0, 0, false, []), (1, 0, false, []), (2, 0, false, []), (3, 1, false, []), (4, 0, false, []), (5, 0, false, []), (6, 1, false, []), (7, 0, false, []), (8, 0, false, []), (9, 0, false, []), (10, 0, false, []), (11, 1, false, []), (12, 0, false, []), (13, 2, false, [])] else []
abbrev rosbook_Book_putItems : FuncId := 127
theorem rosbook_Book_putItems_f : Go.Proofs.Tryz.prog.funcs[rosbook_Book_putItems]? = some Go.Proofs.Tryz.f127 := Go.Proofs.Tryz.func127
theorem rosbook_Book_putItems_is : IsFn Go.Proofs.Tryz.prog rosbook_Book_putItems := ⟨_, Go.Proofs.Tryz.func127, rfl, by kernel_rfl⟩
def rosbook_Book_putItems_d (i : Nat) : List (Nat × Nat × Bool × List Nat) := bif Nat.beq i 7 then [(0, 0, false, []), (1, 0, false, []), (2, 0, false, []), (3, 1, false, []), (4, 0, false, []), (5, 0, false, []), (6, 1, false, []), (7, 0, false, []), (8, 0, false, []), (9, 0, false, []), (10, 0, false, []), (11, 1, false, []), (12, 0, false, []), (13, 2, false, [])] else []
abbrev rosbook_Book_putOwneds : FuncId := 128
theorem rosbook_Book_putOwneds_f : Go.Proofs.Tryz.prog.funcs[rosbook_Book_putOwneds]? = some Go.Proofs.Tryz.f128 := Go.Proofs.Tryz.func128
theorem rosbook_Book_putOwneds_is : IsFn Go.Proofs.Tryz.prog rosbook_Book_putOwneds := ⟨_, Go.Proofs.Tryz.func128, rfl, by kernel_rfl⟩
def rosbook_Book_putOwneds_d (i : Nat) : List (Nat × Nat × Bool × List Nat) := bif Nat.beq i 7 then [(0, 0, false, []), (1, 0, false, []), (2, 0, false, []), (3, 1, false, []), (4, 0, false, []), (5, 0, false, []), (6, 1, false, []), (7, 0, false, []), (8, 0, false, []), (9, 0, false, []), (10, 0, false, []), (11, 1, false, []), (12, 0, false, []), (13, 2, false, [])] else []
abbrev rosbook_Book_growTexts : FuncId := 129
theorem rosbook_Book_growTexts_f : Go.Proofs.Tryz.prog.funcs[rosbook_Book_growTexts]? = some Go.Proofs.Tryz.f129 := Go.Proofs.Tryz.func129
theorem rosbook_Book_growTexts_is : IsFn Go.Proofs.Tryz.prog rosbook_Book_growTexts := ⟨_, Go.Proofs.Tryz.func129, rfl, by kernel_rfl⟩
abbrev rosbook_Book_growInts : FuncId := 130
theorem rosbook_Book_growInts_f : Go.Proofs.Tryz.prog.funcs[rosbook_Book_growInts]? = some Go.Proofs.Tryz.f130 := Go.Proofs.Tryz.func130
theorem rosbook_Book_growInts_is : IsFn Go.Proofs.Tryz.prog rosbook_Book_growInts := ⟨_, Go.Proofs.Tryz.func130, rfl, by kernel_rfl⟩
abbrev rosbook_Book_growPoints : FuncId := 131
theorem rosbook_Book_growPoints_f : Go.Proofs.Tryz.prog.funcs[rosbook_Book_growPoints]? = some Go.Proofs.Tryz.f131 := Go.Proofs.Tryz.func131
theorem rosbook_Book_growPoints_is : IsFn Go.Proofs.Tryz.prog rosbook_Book_growPoints := ⟨_, Go.Proofs.Tryz.func131, rfl, by kernel_rfl⟩
abbrev rosbook_Book_growItems : FuncId := 132
theorem rosbook_Book_growItems_f : Go.Proofs.Tryz.prog.funcs[rosbook_Book_growItems]? = some Go.Proofs.Tryz.f132 := Go.Proofs.Tryz.func132
theorem rosbook_Book_growItems_is : IsFn Go.Proofs.Tryz.prog rosbook_Book_growItems := ⟨_, Go.Proofs.Tryz.func132, rfl, by kernel_rfl⟩
abbrev rosbook_Book_growOwneds : FuncId := 133
theorem rosbook_Book_growOwneds_f : Go.Proofs.Tryz.prog.funcs[rosbook_Book_growOwneds]? = some Go.Proofs.Tryz.f133 := Go.Proofs.Tryz.func133
theorem rosbook_Book_growOwneds_is : IsFn Go.Proofs.Tryz.prog rosbook_Book_growOwneds := ⟨_, Go.Proofs.Tryz.func133, rfl, by kernel_rfl⟩
abbrev rosbook_Book_growEvents : FuncId := 134
theorem rosbook_Book_growEvents_f : Go.Proofs.Tryz.prog.funcs[rosbook_Book_growEvents]? = some Go.Proofs.Tryz.f134 := Go.Proofs.Tryz.func134
theorem rosbook_Book_growEvents_is : IsFn Go.Proofs.Tryz.prog rosbook_Book_growEvents := ⟨_, Go.Proofs.Tryz.func134, rfl, by kernel_rfl⟩
abbrev rosbook_Book_growLetters : FuncId := 135
theorem rosbook_Book_growLetters_f : Go.Proofs.Tryz.prog.funcs[rosbook_Book_growLetters]? = some Go.Proofs.Tryz.f135 := Go.Proofs.Tryz.func135
theorem rosbook_Book_growLetters_is : IsFn Go.Proofs.Tryz.prog rosbook_Book_growLetters := ⟨_, Go.Proofs.Tryz.func135, rfl, by kernel_rfl⟩
abbrev rosbook_markedTexts : FuncId := 136
theorem rosbook_markedTexts_f : Go.Proofs.Tryz.prog.funcs[rosbook_markedTexts]? = some Go.Proofs.Tryz.f136 := Go.Proofs.Tryz.func136
theorem rosbook_markedTexts_is : IsFn Go.Proofs.Tryz.prog rosbook_markedTexts := ⟨_, Go.Proofs.Tryz.func136, rfl, by kernel_rfl⟩
def rosbook_markedTexts_d (i : Nat) : List (Nat × Nat × Bool × List Nat) := bif Nat.beq i 4 then [(0, 0, false, []), (1, 0, false, []), (2, 0, false, []), (3, 1, true, []), (4, 0, false, []), (5, 0, false, []), (6, 0, false, []), (7, 0, false, []), (8, 1, false, []), (9, 0, false, []), (10, 2, false, [3]), (11, 2, false, []), (12, 0, false, [])] else []
abbrev rosbook_markedInts : FuncId := 137
theorem rosbook_markedInts_f : Go.Proofs.Tryz.prog.funcs[rosbook_markedInts]? = some Go.Proofs.Tryz.f137 := Go.Proofs.Tryz.func137
theorem rosbook_markedInts_is : IsFn Go.Proofs.Tryz.prog rosbook_markedInts := ⟨_, Go.Proofs.Tryz.func137, rfl, by kernel_rfl⟩
def rosbook_markedInts_d (i : Nat) : List (Nat × Nat × Bool × List Nat) := bif Nat.beq i 4 then [(0, 0, false, []), (1, 0, false, []), (2, 0, false, []), (3, 1, true, []), (4, 0, false, []), (5, 0, false, []), (6, 0, false, []), (7, 0, false, []), (8, 1, false, []), (9, 0, false, []), (10, 2, false, [3]), (11, 2, false, []), (12, 0, false, [])] else []
abbrev rosbook_markedPoints : FuncId := 138
theorem rosbook_markedPoints_f : Go.Proofs.Tryz.prog.funcs[rosbook_markedPoints]? = some Go.Proofs.Tryz.f138 := Go.Proofs.Tryz.func138
theorem rosbook_markedPoints_is : IsFn Go.Proofs.Tryz.prog rosbook_markedPoints := ⟨_, Go.Proofs.Tryz.func138, rfl, by kernel_rfl⟩
def rosbook_markedPoints_d (i : Nat) : List (Nat × Nat × Bool × List Nat) := bif Nat.beq i 4 then [(0, 0, false, []), (1, 0, false, []), (2, 0, false, []), (3, 1, true, []), (4, 0, false, []), (5, 0, false, []), (6, 0, false, []), (7, 0, false, []), (8, 1, false, []), (9, 0, false, []), (10, 2, false, [3]), (11, 2, false, []), (12, 0, false, [])] else []
abbrev rosbook_markedItems : FuncId := 139
theorem rosbook_markedItems_f : Go.Proofs.Tryz.prog.funcs[rosbook_markedItems]? = some Go.Proofs.Tryz.f139 := Go.Proofs.Tryz.func139
theorem rosbook_markedItems_is : IsFn Go.Proofs.Tryz.prog rosbook_markedItems := ⟨_, Go.Proofs.Tryz.func139, rfl, by kernel_rfl⟩
def rosbook_markedItems_d (i : Nat) : List (Nat × Nat × Bool × List Nat) := bif Nat.beq i 4 then [(0, 0, false, []), (1, 0, false, []), (2, 0, false, []), (3, 1, true, []), (4, 0, false, []), (5, 0, false, []), (6, 0, false, []), (7, 0, false, []), (8, 1, false, []), (9, 0, false, []), (10, 2, false, [3]), (11, 2, false, []), (12, 0, false, [])] else []
abbrev rosbook_markedOwneds : FuncId := 140
theorem rosbook_markedOwneds_f : Go.Proofs.Tryz.prog.funcs[rosbook_markedOwneds]? = some Go.Proofs.Tryz.f140 := Go.Proofs.Tryz.func140
theorem rosbook_markedOwneds_is : IsFn Go.Proofs.Tryz.prog rosbook_markedOwneds := ⟨_, Go.Proofs.Tryz.func140, rfl, by kernel_rfl⟩
def rosbook_markedOwneds_d (i : Nat) : List (Nat × Nat × Bool × List Nat) := bif Nat.beq i 4 then [(0, 0, false, []), (1, 0, false, []), (2, 0, false, []), (3, 1, true, []), (4, 0, false, []), (5, 0, false, []), (6, 0, false, []), (7, 0, false, []), (8, 1, false, []), (9, 0, false, []), (10, 2, false, [3]), (11, 2, false, []), (12, 0, false, [])] else []
abbrev rosbook_markedEvents : FuncId := 141
theorem rosbook_markedEvents_f : Go.Proofs.Tryz.prog.funcs[rosbook_markedEvents]? = some Go.Proofs.Tryz.f141 := Go.Proofs.Tryz.func141
theorem rosbook_markedEvents_is : IsFn Go.Proofs.Tryz.prog rosbook_markedEvents := ⟨_, Go.Proofs.Tryz.func141, rfl, by kernel_rfl⟩
def rosbook_markedEvents_d (i : Nat) : List (Nat × Nat × Bool × List Nat) := bif Nat.beq i 4 then [(0, 0, false, []), (1, 0, false, []), (2, 0, false, []), (3, 1, true, []), (4, 0, false, []), (5, 0, false, []), (6, 0, false, []), (7, 0, false, []), (8, 1, false, []), (9, 0, false, []), (10, 2, false, [3]), (11, 2, false, []), (12, 0, false, [])] else []
abbrev rosbook_markedLetters : FuncId := 142
theorem rosbook_markedLetters_f : Go.Proofs.Tryz.prog.funcs[rosbook_markedLetters]? = some Go.Proofs.Tryz.f142 := Go.Proofs.Tryz.func142
theorem rosbook_markedLetters_is : IsFn Go.Proofs.Tryz.prog rosbook_markedLetters := ⟨_, Go.Proofs.Tryz.func142, rfl, by kernel_rfl⟩
def rosbook_markedLetters_d (i : Nat) : List (Nat × Nat × Bool × List Nat) := bif Nat.beq i 4 then [(0, 0, false, []), (1, 0, false, []), (2, 0, false, []), (3, 1, true, []), (4, 0, false, []), (5, 0, false, []), (6, 0, false, []), (7, 0, false, []), (8, 1, false, []), (9, 0, false, []), (10, 2, false, [3]), (11, 2, false, []), (12, 0, false, [])] else []
abbrev rosref1_Shelves : FuncId := 143
theorem rosref1_Shelves_f : Go.Proofs.Tryz.prog.funcs[rosref1_Shelves]? = some Go.Proofs.Tryz.f143 := Go.Proofs.Tryz.func143
theorem rosref1_Shelves_is : IsFn Go.Proofs.Tryz.prog rosref1_Shelves := ⟨_, Go.Proofs.Tryz.func143, rfl, by kernel_rfl⟩
abbrev rosref10_Hold_apart : FuncId := 144
theorem rosref10_Hold_apart_f : Go.Proofs.Tryz.prog.funcs[rosref10_Hold_apart]? = some Go.Proofs.Tryz.f144 := Go.Proofs.Tryz.func144
theorem rosref10_Hold_apart_is : IsFn Go.Proofs.Tryz.prog rosref10_Hold_apart := ⟨_, Go.Proofs.Tryz.func144, rfl, by kernel_rfl⟩
def rosref10_Hold_apart_d (i : Nat) : List (Nat × Nat × Bool × List Nat) := bif Nat.beq i 4 then [(0, 0, false, []), (1, 0, false, []), (2, 0, false, []), (3, 1, false, []), (4, 0, false, []), (5, 0, false, []), (6, 0, false, []), (7, 1, false, []), (8, 1, false, []), (9, 2, false, []), (10, 0, false, [])] else []
abbrev slices_Clone_Item : FuncId := 145
theorem slices_Clone_Item_f : Go.Proofs.Tryz.prog.funcs[slices_Clone_Item]? = some Go.Proofs.Tryz.f145 := Go.Proofs.Tryz.func145
theorem slices_Clone_Item_is : IsFn Go.Proofs.Tryz.prog slices_Clone_Item := ⟨_, Go.Proofs.Tryz.func145, rfl, by kernel_rfl⟩
abbrev hold_Hold_may_1 : FuncId := 146
theorem hold_Hold_may_1_f : Go.Proofs.Tryz.prog.funcs[hold_Hold_may_1]? = some Go.Proofs.Tryz.f146 := Go.Proofs.Tryz.func146
theorem hold_Hold_may_1_is : IsFn Go.Proofs.Tryz.prog hold_Hold_may_1 := ⟨_, Go.Proofs.Tryz.func146, rfl, by kernel_rfl⟩
abbrev slices_IndexFunc_Owned : FuncId := 147
theorem slices_IndexFunc_Owned_f : Go.Proofs.Tryz.prog.funcs[slices_IndexFunc_Owned]? = some Go.Proofs.Tryz.f147 := Go.Proofs.Tryz.func147
theorem slices_IndexFunc_Owned_is : IsFn Go.Proofs.Tryz.prog slices_IndexFunc_Owned := ⟨_, Go.Proofs.Tryz.func147, rfl, by kernel_rfl⟩
abbrev slices_ContainsFunc_Item : FuncId := 148
theorem slices_ContainsFunc_Item_f : Go.Proofs.Tryz.prog.funcs[slices_ContainsFunc_Item]? = some Go.Proofs.Tryz.f148 := Go.Proofs.Tryz.func148
theorem slices_ContainsFunc_Item_is : IsFn Go.Proofs.Tryz.prog slices_ContainsFunc_Item := ⟨_, Go.Proofs.Tryz.func148, rfl, by kernel_rfl⟩
abbrev hold_Hold_Win_1 : FuncId := 149
theorem hold_Hold_Win_1_f : Go.Proofs.Tryz.prog.funcs[hold_Hold_Win_1]? = some Go.Proofs.Tryz.f149 := Go.Proofs.Tryz.func149
theorem hold_Hold_Win_1_is : IsFn Go.Proofs.Tryz.prog hold_Hold_Win_1 := ⟨_, Go.Proofs.Tryz.func149, rfl, by kernel_rfl⟩
def hold_Hold_Win_1_d (i : Nat) : List (Nat × Nat × Bool × List Nat) := bif Nat.beq i 1 then [(0, 1, true, []), (1, 0, false, []), (2, 1, false, []), (3, 2, false, [0]), (4, 2, false, []), (5, 0, false, []), (6, 0, false, [])] else []
abbrev cut_In : FuncId := 150
theorem cut_In_f : Go.Proofs.Tryz.prog.funcs[cut_In]? = some Go.Proofs.Tryz.f150 := Go.Proofs.Tryz.func150
theorem cut_In_is : IsFn Go.Proofs.Tryz.prog cut_In := ⟨_, Go.Proofs.Tryz.func150, rfl, by kernel_rfl⟩
abbrev view_pieces : FuncId := 151
theorem view_pieces_f : Go.Proofs.Tryz.prog.funcs[view_pieces]? = some Go.Proofs.Tryz.f151 := Go.Proofs.Tryz.func151
theorem view_pieces_is : IsFn Go.Proofs.Tryz.prog view_pieces := ⟨_, Go.Proofs.Tryz.func151, rfl, by kernel_rfl⟩
abbrev view_View_cut : FuncId := 152
theorem view_View_cut_f : Go.Proofs.Tryz.prog.funcs[view_View_cut]? = some Go.Proofs.Tryz.f152 := Go.Proofs.Tryz.func152
theorem view_View_cut_is : IsFn Go.Proofs.Tryz.prog view_View_cut := ⟨_, Go.Proofs.Tryz.func152, rfl, by kernel_rfl⟩
def view_View_cut_d (i : Nat) : List (Nat × Nat × Bool × List Nat) := bif Nat.beq i 6 then [(0, 0, false, []), (1, 0, false, []), (2, 0, false, []), (3, 0, false, []), (4, 1, true, []), (5, 0, false, []), (6, 0, false, []), (7, 1, false, []), (8, 2, false, [4]), (9, 2, false, []), (10, 0, false, []), (11, 0, false, []), (12, 2, false, [])] else []
abbrev view_View_All_1 : FuncId := 153
theorem view_View_All_1_f : Go.Proofs.Tryz.prog.funcs[view_View_All_1]? = some Go.Proofs.Tryz.f153 := Go.Proofs.Tryz.func153
theorem view_View_All_1_is : IsFn Go.Proofs.Tryz.prog view_View_All_1 := ⟨_, Go.Proofs.Tryz.func153, rfl, by kernel_rfl⟩
abbrev view_View_arcs : FuncId := 154
theorem view_View_arcs_f : Go.Proofs.Tryz.prog.funcs[view_View_arcs]? = some Go.Proofs.Tryz.f154 := Go.Proofs.Tryz.func154
theorem view_View_arcs_is : IsFn Go.Proofs.Tryz.prog view_View_arcs := ⟨_, Go.Proofs.Tryz.func154, rfl, by kernel_rfl⟩
def view_View_arcs_d (i : Nat) : List (Nat × Nat × Bool × List Nat) := bif Nat.beq i 7 then [(0, 0, false, []), (1, 0, false, []), (2, 0, false, []), (3, 0, false, []), (4, 0, false, []), (5, 0, false, []), (6, 0, false, []), (7, 0, false, []), (8, 0, false, []), (9, 1, false, []), (10, 1, false, []), (11, 2, false, []), (12, 0, false, []), (13, 0, false, [])] else bif Nat.beq i 19 then [(0, 0, false, []), (1, 0, false, []), (2, 0, false, []), (3, 0, false, []), (4, 0, false, []), (5, 0, false, []), (6, 1, false, []), (7, 0, false, []), (8, 0, false, []), (9, 0, false, []), (10, 0, false, []), (11, 0, false, []), (12, 1, false, []), (13, 0, false, []), (14, 0, false, []), (15, 0, false, []), (16, 1, false, []), (17, 2, false, []), (18, 0, false, [])] else []
abbrev key_Right : FuncId := 155
theorem key_Right_f : Go.Proofs.Tryz.prog.funcs[key_Right]? = some Go.Proofs.Tryz.f155 := Go.Proofs.Tryz.func155
theorem key_Right_is : IsFn Go.Proofs.Tryz.prog key_Right := ⟨_, Go.Proofs.Tryz.func155, rfl, by kernel_rfl⟩
abbrev key_Value : FuncId := 156
theorem key_Value_f : Go.Proofs.Tryz.prog.funcs[key_Value]? = some Go.Proofs.Tryz.f156 := Go.Proofs.Tryz.func156
theorem key_Value_is : IsFn Go.Proofs.Tryz.prog key_Value := ⟨_, Go.Proofs.Tryz.func156, rfl, by kernel_rfl⟩
abbrev shelf_Shelf_Put : FuncId := 157
theorem shelf_Shelf_Put_f : Go.Proofs.Tryz.prog.funcs[shelf_Shelf_Put]? = some Go.Proofs.Tryz.f157 := Go.Proofs.Tryz.func157
theorem shelf_Shelf_Put_is : IsFn Go.Proofs.Tryz.prog shelf_Shelf_Put := ⟨_, Go.Proofs.Tryz.func157, rfl, by kernel_rfl⟩
def shelf_Shelf_Put_a20 : List (Nat × Nat × Bool × List Nat) := [(0, 0, false, []), (1, 1, false, []), (3, 0, false, []), (4, 0, false, []), (5, 0, false, []), (6, 1, true, []), (7, 0, false, []), (2, 2, false, [6]), (8, 2, false, []), (9, 0, false, []), (10, 2, false, []), (11, 0, false, []), (12, 0, false, []), (13, 2, false, [])]
def shelf_Shelf_Put_b20 : List (Nat × Nat × Bool × List Nat) := [(0, 0, false, []), (1, 1, true, []), (3, 0, false, []), (4, 0, false, []), (5, 0, false, []), (6, 1, true, []), (7, 0, false, []), (8, 2, false, [1]), (2, 2, false, [6]), (9, 0, false, []), (10, 2, false, []), (11, 0, false, []), (12, 0, false, []), (13, 2, false, [])]
def shelf_Shelf_Put_d (i : Nat) : List (Nat × Nat × Bool × List Nat) := bif Nat.beq i 14 then [(0, 0, false, []), (1, 0, false, []), (2, 0, false, []), (3, 1, false, []), (4, 0, false, []), (5, 0, false, []), (6, 0, false, []), (7, 1, false, []), (8, 0, false, [])] else []
abbrev hold_Hold_end : FuncId := 158
theorem hold_Hold_end_f : Go.Proofs.Tryz.prog.funcs[hold_Hold_end]? = some Go.Proofs.Tryz.f158 := Go.Proofs.Tryz.func158
theorem hold_Hold_end_is : IsFn Go.Proofs.Tryz.prog hold_Hold_end := ⟨_, Go.Proofs.Tryz.func158, rfl, by kernel_rfl⟩
abbrev walk_Range : FuncId := 159
theorem walk_Range_f : Go.Proofs.Tryz.prog.funcs[walk_Range]? = some Go.Proofs.Tryz.f159 := Go.Proofs.Tryz.func159
theorem walk_Range_is : IsFn Go.Proofs.Tryz.prog walk_Range := ⟨_, Go.Proofs.Tryz.func159, rfl, by kernel_rfl⟩
abbrev key_First : FuncId := 160
theorem key_First_f : Go.Proofs.Tryz.prog.funcs[key_First]? = some Go.Proofs.Tryz.f160 := Go.Proofs.Tryz.func160
theorem key_First_is : IsFn Go.Proofs.Tryz.prog key_First := ⟨_, Go.Proofs.Tryz.func160, rfl, by kernel_rfl⟩
abbrev key_Less : FuncId := 161
theorem key_Less_f : Go.Proofs.Tryz.prog.funcs[key_Less]? = some Go.Proofs.Tryz.f161 := Go.Proofs.Tryz.func161
theorem key_Less_is : IsFn Go.Proofs.Tryz.prog key_Less := ⟨_, Go.Proofs.Tryz.func161, rfl, by kernel_rfl⟩
def key_Less_d (i : Nat) : List (Nat × Nat × Bool × List Nat) := bif Nat.beq i 5 then [(0, 0, false, []), (1, 0, false, []), (2, 0, false, []), (3, 0, false, []), (4, 0, false, []), (5, 0, false, []), (6, 0, false, []), (7, 0, false, [])] else bif Nat.beq i 7 then [(0, 0, false, []), (1, 0, false, []), (2, 0, false, []), (3, 0, false, []), (4, 0, false, []), (5, 0, false, []), (6, 0, false, []), (7, 0, false, [])] else []
abbrev shelf_Shelf_find : FuncId := 162
theorem shelf_Shelf_find_f : Go.Proofs.Tryz.prog.funcs[shelf_Shelf_find]? = some Go.Proofs.Tryz.f162 := Go.Proofs.Tryz.func162
theorem shelf_Shelf_find_is : IsFn Go.Proofs.Tryz.prog shelf_Shelf_find := ⟨_, Go.Proofs.Tryz.func162, rfl, by kernel_rfl⟩
abbrev shelf_node_del : FuncId := 163
theorem shelf_node_del_f : Go.Proofs.Tryz.prog.funcs[shelf_node_del]? = some Go.Proofs.Tryz.f163 := Go.Proofs.Tryz.func163
theorem shelf_node_del_is : IsFn Go.Proofs.Tryz.prog shelf_node_del := ⟨_, Go.Proofs.Tryz.func163, rfl, by kernel_rfl⟩
def shelf_node_del_d (i : Nat) : List (Nat × Nat × Bool × List Nat) := bif Nat.beq i 8 then [(0, 0, false, []), (1, 0, false, []), (2, 0, false, []), (3, 1, false, []), (4, 0, false, []), (5, 1, false, []), (6, 0, false, []), (7, 2, false, [])] else bif Nat.beq i 9 then [(0, 0, false, []), (1, 0, false, []), (2, 0, false, []), (3, 1, false, []), (4, 0, false, []), (5, 0, false, []), (6, 1, false, []), (7, 0, false, []), (8, 1, false, []), (9, 2, false, [])] else []
abbrev shelf_node_leaf : FuncId := 164
theorem shelf_node_leaf_f : Go.Proofs.Tryz.prog.funcs[shelf_node_leaf]? = some Go.Proofs.Tryz.f164 := Go.Proofs.Tryz.func164
theorem shelf_node_leaf_is : IsFn Go.Proofs.Tryz.prog shelf_node_leaf := ⟨_, Go.Proofs.Tryz.func164, rfl, by kernel_rfl⟩
abbrev hold_Hold_at_1 : FuncId := 165
theorem hold_Hold_at_1_f : Go.Proofs.Tryz.prog.funcs[hold_Hold_at_1]? = some Go.Proofs.Tryz.f165 := Go.Proofs.Tryz.func165
theorem hold_Hold_at_1_is : IsFn Go.Proofs.Tryz.prog hold_Hold_at_1 := ⟨_, Go.Proofs.Tryz.func165, rfl, by kernel_rfl⟩
abbrev hold_has : FuncId := 166
theorem hold_has_f : Go.Proofs.Tryz.prog.funcs[hold_has]? = some Go.Proofs.Tryz.f166 := Go.Proofs.Tryz.func166
theorem hold_has_is : IsFn Go.Proofs.Tryz.prog hold_has := ⟨_, Go.Proofs.Tryz.func166, rfl, by kernel_rfl⟩
abbrev walk_Arc_1 : FuncId := 167
theorem walk_Arc_1_f : Go.Proofs.Tryz.prog.funcs[walk_Arc_1]? = some Go.Proofs.Tryz.f167 := Go.Proofs.Tryz.func167
theorem walk_Arc_1_is : IsFn Go.Proofs.Tryz.prog walk_Arc_1 := ⟨_, Go.Proofs.Tryz.func167, rfl, by kernel_rfl⟩
abbrev slices_DeleteFunc_pointer : FuncId := 168
theorem slices_DeleteFunc_pointer_f : Go.Proofs.Tryz.prog.funcs[slices_DeleteFunc_pointer]? = some Go.Proofs.Tryz.f168 := Go.Proofs.Tryz.func168
theorem slices_DeleteFunc_pointer_is : IsFn Go.Proofs.Tryz.prog slices_DeleteFunc_pointer := ⟨_, Go.Proofs.Tryz.func168, rfl, by kernel_rfl⟩
abbrev gate_Gate_Tick_1 : FuncId := 169
theorem gate_Gate_Tick_1_f : Go.Proofs.Tryz.prog.funcs[gate_Gate_Tick_1]? = some Go.Proofs.Tryz.f169 := Go.Proofs.Tryz.func169
theorem gate_Gate_Tick_1_is : IsFn Go.Proofs.Tryz.prog gate_Gate_Tick_1 := ⟨_, Go.Proofs.Tryz.func169, rfl, by kernel_rfl⟩
abbrev give_Give_left : FuncId := 170
theorem give_Give_left_f : Go.Proofs.Tryz.prog.funcs[give_Give_left]? = some Go.Proofs.Tryz.f170 := Go.Proofs.Tryz.func170
theorem give_Give_left_is : IsFn Go.Proofs.Tryz.prog give_Give_left := ⟨_, Go.Proofs.Tryz.func170, rfl, by kernel_rfl⟩
abbrev shelf_node_all : FuncId := 171
theorem shelf_node_all_f : Go.Proofs.Tryz.prog.funcs[shelf_node_all]? = some Go.Proofs.Tryz.f171 := Go.Proofs.Tryz.func171
theorem shelf_node_all_is : IsFn Go.Proofs.Tryz.prog shelf_node_all := ⟨_, Go.Proofs.Tryz.func171, rfl, by kernel_rfl⟩
def shelf_node_all_d (i : Nat) : List (Nat × Nat × Bool × List Nat) := bif Nat.beq i 11 then [(0, 0, false, []), (1, 0, false, []), (2, 0, false, []), (3, 1, false, []), (4, 0, false, []), (5, 0, false, []), (6, 0, false, []), (7, 1, false, []), (8, 0, false, []), (9, 0, false, []), (10, 1, false, []), (11, 0, false, []), (12, 2, false, []), (13, 0, false, [])] else []
abbrev rosref10_View_Learn : FuncId := 172
theorem rosref10_View_Learn_f : Go.Proofs.Tryz.prog.funcs[rosref10_View_Learn]? = some Go.Proofs.Tryz.f172 := Go.Proofs.Tryz.func172
theorem rosref10_View_Learn_is : IsFn Go.Proofs.Tryz.prog rosref10_View_Learn := ⟨_, Go.Proofs.Tryz.func172, rfl, by kernel_rfl⟩
def rosref10_View_Learn_d (i : Nat) : List (Nat × Nat × Bool × List Nat) := bif Nat.beq i 10 then [(0, 0, false, []), (1, 1, false, []), (2, 0, false, []), (3, 0, false, []), (4, 0, false, []), (5, 1, false, []), (6, 0, false, []), (7, 0, false, []), (8, 0, false, []), (9, 1, false, []), (10, 2, false, []), (11, 0, false, []), (12, 0, false, []), (13, 0, false, []), (14, 0, false, []), (15, 1, false, []), (16, 0, false, []), (17, 0, false, []), (18, 0, false, []), (19, 1, false, []), (20, 0, false, []), (21, 1, false, []), (22, 0, false, []), (23, 0, false, [])] else bif Nat.beq i 11 then [(0, 0, false, []), (1, 0, false, []), (2, 0, false, []), (3, 1, false, []), (4, 0, false, []), (5, 0, false, []), (6, 0, false, []), (7, 0, false, []), (8, 1, false, []), (9, 0, false, []), (10, 0, false, []), (11, 1, false, []), (12, 0, false, []), (13, 1, true, []), (14, 0, false, []), (15, 0, false, []), (16, 2, false, [13]), (17, 0, false, []), (18, 0, false, []), (19, 2, false, [])] else []
abbrev rosref10_View_All : FuncId := 173
theorem rosref10_View_All_f : Go.Proofs.Tryz.prog.funcs[rosref10_View_All]? = some Go.Proofs.Tryz.f173 := Go.Proofs.Tryz.func173
theorem rosref10_View_All_is : IsFn Go.Proofs.Tryz.prog rosref10_View_All := ⟨_, Go.Proofs.Tryz.func173, rfl, by kernel_rfl⟩
def rosref10_View_All_d (i : Nat) : List (Nat × Nat × Bool × List Nat) := bif Nat.beq i 10 then [(0, 0, false, []), (1, 0, false, []), (2, 0, false, []), (3, 0, false, []), (4, 0, false, []), (5, 0, false, []), (6, 0, false, []), (7, 0, false, []), (8, 1, false, []), (9, 0, false, []), (10, 1, false, []), (11, 0, false, []), (12, 0, false, []), (13, 0, false, []), (14, 0, false, []), (15, 0, false, []), (16, 0, false, []), (17, 0, false, []), (18, 0, false, []), (19, 1, false, []), (20, 0, false, []), (21, 1, false, []), (22, 0, false, []), (23, 0, false, [])] else bif Nat.beq i 14 then [(0, 0, false, []), (1, 0, false, []), (2, 0, false, []), (3, 0, false, []), (4, 0, false, []), (5, 0, false, []), (6, 1, false, []), (7, 0, false, []), (8, 0, false, []), (9, 0, false, []), (10, 0, false, []), (11, 0, false, []), (12, 1, false, []), (13, 0, false, []), (14, 0, false, []), (15, 0, false, []), (16, 0, false, []), (17, 0, false, []), (18, 0, false, []), (19, 1, false, []), (20, 0, false, []), (21, 0, false, []), (22, 0, false, []), (23, 0, false, []), (24, 0, false, []), (25, 1, false, []), (26, 0, false, []), (27, 0, false, [])] else []
abbrev rosref10_Hold_owned : FuncId := 174
theorem rosref10_Hold_owned_f : Go.Proofs.Tryz.prog.funcs[rosref10_Hold_owned]? = some Go.Proofs.Tryz.f174 := Go.Proofs.Tryz.func174
theorem rosref10_Hold_owned_is : IsFn Go.Proofs.Tryz.prog rosref10_Hold_owned := ⟨_, Go.Proofs.Tryz.func174, rfl, by kernel_rfl⟩
def rosref10_Hold_owned_d (i : Nat) : List (Nat × Nat × Bool × List Nat) := bif Nat.beq i 5 then [(0, 0, false, []), (1, 0, false, []), (2, 0, false, []), (3, 1, false, []), (4, 0, false, []), (5, 0, false, []), (6, 0, false, []), (7, 1, false, []), (8, 0, false, []), (9, 0, false, []), (10, 0, false, []), (11, 1, false, []), (12, 0, false, []), (13, 0, false, []), (14, 0, false, []), (15, 1, false, []), (16, 0, false, []), (17, 2, false, [])] else bif Nat.beq i 12 then [(0, 1, false, []), (1, 0, false, []), (2, 1, false, []), (3, 0, false, []), (4, 0, false, []), (5, 0, false, []), (6, 1, false, []), (7, 2, false, [])] else []
abbrev rosbook_copyItems : FuncId := 175
theorem rosbook_copyItems_f : Go.Proofs.Tryz.prog.funcs[rosbook_copyItems]? = some Go.Proofs.Tryz.f175 := Go.Proofs.Tryz.func175
theorem rosbook_copyItems_is : IsFn Go.Proofs.Tryz.prog rosbook_copyItems := ⟨_, Go.Proofs.Tryz.func175, rfl, by kernel_rfl⟩
abbrev rosref10_Hold_epochAt : FuncId := 176
theorem rosref10_Hold_epochAt_f : Go.Proofs.Tryz.prog.funcs[rosref10_Hold_epochAt]? = some Go.Proofs.Tryz.f176 := Go.Proofs.Tryz.func176
theorem rosref10_Hold_epochAt_is : IsFn Go.Proofs.Tryz.prog rosref10_Hold_epochAt := ⟨_, Go.Proofs.Tryz.func176, rfl, by kernel_rfl⟩
abbrev rosref10_Hold_end : FuncId := 177
theorem rosref10_Hold_end_f : Go.Proofs.Tryz.prog.funcs[rosref10_Hold_end]? = some Go.Proofs.Tryz.f177 := Go.Proofs.Tryz.func177
theorem rosref10_Hold_end_is : IsFn Go.Proofs.Tryz.prog rosref10_Hold_end := ⟨_, Go.Proofs.Tryz.func177, rfl, by kernel_rfl⟩
abbrev rosref1_Shelf_Range : FuncId := 178
theorem rosref1_Shelf_Range_f : Go.Proofs.Tryz.prog.funcs[rosref1_Shelf_Range]? = some Go.Proofs.Tryz.f178 := Go.Proofs.Tryz.func178
theorem rosref1_Shelf_Range_is : IsFn Go.Proofs.Tryz.prog rosref1_Shelf_Range := ⟨_, Go.Proofs.Tryz.func178, rfl, by kernel_rfl⟩
abbrev rosref1_First : FuncId := 179
theorem rosref1_First_f : Go.Proofs.Tryz.prog.funcs[rosref1_First]? = some Go.Proofs.Tryz.f179 := Go.Proofs.Tryz.func179
theorem rosref1_First_is : IsFn Go.Proofs.Tryz.prog rosref1_First := ⟨_, Go.Proofs.Tryz.func179, rfl, by kernel_rfl⟩
abbrev rosref1_Shelf_Out : FuncId := 180
theorem rosref1_Shelf_Out_f : Go.Proofs.Tryz.prog.funcs[rosref1_Shelf_Out]? = some Go.Proofs.Tryz.f180 := Go.Proofs.Tryz.func180
theorem rosref1_Shelf_Out_is : IsFn Go.Proofs.Tryz.prog rosref1_Shelf_Out := ⟨_, Go.Proofs.Tryz.func180, rfl, by kernel_rfl⟩
abbrev rosref10_View_cut : FuncId := 181
theorem rosref10_View_cut_f : Go.Proofs.Tryz.prog.funcs[rosref10_View_cut]? = some Go.Proofs.Tryz.f181 := Go.Proofs.Tryz.func181
theorem rosref10_View_cut_is : IsFn Go.Proofs.Tryz.prog rosref10_View_cut := ⟨_, Go.Proofs.Tryz.func181, rfl, by kernel_rfl⟩
def rosref10_View_cut_a4 : List (Nat × Nat × Bool × List Nat) := [(0, 0, false, []), (1, 0, false, []), (2, 0, false, []), (3, 0, false, []), (4, 1, false, []), (5, 0, false, []), (6, 0, false, []), (7, 0, false, []), (9, 1, true, []), (12, 0, false, []), (13, 0, false, []), (14, 0, false, []), (15, 1, true, []), (16, 0, false, []), (17, 0, false, []), (18, 0, false, []), (8, 2, false, [9, 15]), (10, 2, false, [15]), (11, 2, false, [15]), (19, 2, false, []), (20, 0, false, []), (21, 0, false, []), (22, 2, false, [])]
def rosref10_View_cut_b4 : List (Nat × Nat × Bool × List Nat) := [(0, 0, false, []), (1, 0, false, []), (2, 0, false, []), (3, 0, false, []), (4, 1, true, []), (5, 0, false, []), (6, 0, false, []), (7, 0, false, []), (9, 1, true, []), (12, 0, false, []), (13, 0, false, []), (14, 0, false, []), (15, 1, true, []), (16, 0, false, []), (17, 0, false, []), (18, 0, false, []), (10, 2, false, [4, 15]), (8, 2, false, [9, 15]), (11, 2, false, [15]), (19, 2, false, []), (20, 0, false, []), (21, 0, false, []), (22, 2, false, [])]
abbrev rosref10_Gate_Point : FuncId := 182
theorem rosref10_Gate_Point_f : Go.Proofs.Tryz.prog.funcs[rosref10_Gate_Point]? = some Go.Proofs.Tryz.f182 := Go.Proofs.Tryz.func182
theorem rosref10_Gate_Point_is : IsFn Go.Proofs.Tryz.prog rosref10_Gate_Point := ⟨_, Go.Proofs.Tryz.func182, rfl, by kernel_rfl⟩
def rosref10_Gate_Point_a1 : List (Nat × Nat × Bool × List Nat) := [(0, 0, false, []), (1, 0, false, []), (2, 0, false, []), (3, 0, false, []), (4, 1, false, []), (6, 1, true, []), (7, 0, false, []), (8, 0, false, []), (5, 2, false, [6]), (9, 2, false, []), (10, 2, false, []), (11, 0, false, []), (12, 0, false, []), (13, 2, false, [])]
def rosref10_Gate_Point_b1 : List (Nat × Nat × Bool × List Nat) := [(0, 0, false, []), (1, 0, false, []), (2, 0, false, []), (3, 0, false, []), (4, 1, true, []), (6, 1, true, []), (7, 0, false, []), (8, 0, false, []), (9, 2, false, [4]), (5, 2, false, [6]), (10, 2, false, []), (11, 0, false, []), (12, 0, false, []), (13, 2, false, [])]
abbrev rosbook_SameTexts : FuncId := 183
theorem rosbook_SameTexts_f : Go.Proofs.Tryz.prog.funcs[rosbook_SameTexts]? = some Go.Proofs.Tryz.f183 := Go.Proofs.Tryz.func183
theorem rosbook_SameTexts_is : IsFn Go.Proofs.Tryz.prog rosbook_SameTexts := ⟨_, Go.Proofs.Tryz.func183, rfl, by kernel_rfl⟩
def rosbook_SameTexts_d (i : Nat) : List (Nat × Nat × Bool × List Nat) := bif Nat.beq i 6 then [(0, 0, false, []), (1, 0, false, []), (2, 0, false, []), (3, 1, false, []), (4, 0, false, []), (5, 0, false, []), (6, 0, false, []), (7, 1, false, []), (8, 0, false, []), (9, 0, false, [])] else []
abbrev rosbook_SameInts : FuncId := 184
theorem rosbook_SameInts_f : Go.Proofs.Tryz.prog.funcs[rosbook_SameInts]? = some Go.Proofs.Tryz.f184 := Go.Proofs.Tryz.func184
theorem rosbook_SameInts_is : IsFn Go.Proofs.Tryz.prog rosbook_SameInts := ⟨_, Go.Proofs.Tryz.func184, rfl, by kernel_rfl⟩
def rosbook_SameInts_d (i : Nat) : List (Nat × Nat × Bool × List Nat) := bif Nat.beq i 6 then [(0, 0, false, []), (1, 0, false, []), (2, 0, false, []), (3, 1, false, []), (4, 0, false, []), (5, 0, false, []), (6, 0, false, []), (7, 1, false, []), (8, 0, false, []), (9, 0, false, [])] else []
abbrev rosbook_SamePoints : FuncId := 185
theorem rosbook_SamePoints_f : Go.Proofs.Tryz.prog.funcs[rosbook_SamePoints]? = some Go.Proofs.Tryz.f185 := Go.Proofs.Tryz.func185
theorem rosbook_SamePoints_is : IsFn Go.Proofs.Tryz.prog rosbook_SamePoints := ⟨_, Go.Proofs.Tryz.func185, rfl, by kernel_rfl⟩
def rosbook_SamePoints_d (i : Nat) : List (Nat × Nat × Bool × List Nat) := bif Nat.beq i 6 then [(0, 0, false, []), (1, 0, false, []), (2, 0, false, []), (3, 1, false, []), (4, 0, false, []), (5, 0, false, []), (6, 0, false, []), (7, 1, false, []), (8, 0, false, []), (9, 0, false, [])] else []
abbrev rosbook_SameEvents : FuncId := 186
theorem rosbook_SameEvents_f : Go.Proofs.Tryz.prog.funcs[rosbook_SameEvents]? = some Go.Proofs.Tryz.f186 := Go.Proofs.Tryz.func186
theorem rosbook_SameEvents_is : IsFn Go.Proofs.Tryz.prog rosbook_SameEvents := ⟨_, Go.Proofs.Tryz.func186, rfl, by kernel_rfl⟩
def rosbook_SameEvents_d (i : Nat) : List (Nat × Nat × Bool × List Nat) := bif Nat.beq i 6 then [(0, 0, false, []), (1, 0, false, []), (2, 0, false, []), (3, 1, false, []), (4, 0, false, []), (5, 0, false, []), (6, 0, false, []), (7, 1, false, []), (8, 2, false, []), (9, 0, false, [])] else []
abbrev rosbook_markEvents : FuncId := 187
theorem rosbook_markEvents_f : Go.Proofs.Tryz.prog.funcs[rosbook_markEvents]? = some Go.Proofs.Tryz.f187 := Go.Proofs.Tryz.func187
theorem rosbook_markEvents_is : IsFn Go.Proofs.Tryz.prog rosbook_markEvents := ⟨_, Go.Proofs.Tryz.func187, rfl, by kernel_rfl⟩
abbrev rosbook_markLetters : FuncId := 188
theorem rosbook_markLetters_f : Go.Proofs.Tryz.prog.funcs[rosbook_markLetters]? = some Go.Proofs.Tryz.f188 := Go.Proofs.Tryz.func188
theorem rosbook_markLetters_is : IsFn Go.Proofs.Tryz.prog rosbook_markLetters := ⟨_, Go.Proofs.Tryz.func188, rfl, by kernel_rfl⟩
abbrev rosbook_markTexts : FuncId := 189
theorem rosbook_markTexts_f : Go.Proofs.Tryz.prog.funcs[rosbook_markTexts]? = some Go.Proofs.Tryz.f189 := Go.Proofs.Tryz.func189
theorem rosbook_markTexts_is : IsFn Go.Proofs.Tryz.prog rosbook_markTexts := ⟨_, Go.Proofs.Tryz.func189, rfl, by kernel_rfl⟩
abbrev rosbook_markInts : FuncId := 190
theorem rosbook_markInts_f : Go.Proofs.Tryz.prog.funcs[rosbook_markInts]? = some Go.Proofs.Tryz.f190 := Go.Proofs.Tryz.func190
theorem rosbook_markInts_is : IsFn Go.Proofs.Tryz.prog rosbook_markInts := ⟨_, Go.Proofs.Tryz.func190, rfl, by kernel_rfl⟩
abbrev rosbook_markPoints : FuncId := 191
theorem rosbook_markPoints_f : Go.Proofs.Tryz.prog.funcs[rosbook_markPoints]? = some Go.Proofs.Tryz.f191 := Go.Proofs.Tryz.func191
theorem rosbook_markPoints_is : IsFn Go.Proofs.Tryz.prog rosbook_markPoints := ⟨_, Go.Proofs.Tryz.func191, rfl, by kernel_rfl⟩
abbrev rosbook_markItems : FuncId := 192
theorem rosbook_markItems_f : Go.Proofs.Tryz.prog.funcs[rosbook_markItems]? = some Go.Proofs.Tryz.f192 := Go.Proofs.Tryz.func192
theorem rosbook_markItems_is : IsFn Go.Proofs.Tryz.prog rosbook_markItems := ⟨_, Go.Proofs.Tryz.func192, rfl, by kernel_rfl⟩
abbrev rosbook_markOwneds : FuncId := 193
theorem rosbook_markOwneds_f : Go.Proofs.Tryz.prog.funcs[rosbook_markOwneds]? = some Go.Proofs.Tryz.f193 := Go.Proofs.Tryz.func193
theorem rosbook_markOwneds_is : IsFn Go.Proofs.Tryz.prog rosbook_markOwneds := ⟨_, Go.Proofs.Tryz.func193, rfl, by kernel_rfl⟩
abbrev slices_IndexFunc_Item : FuncId := 194
theorem slices_IndexFunc_Item_f : Go.Proofs.Tryz.prog.funcs[slices_IndexFunc_Item]? = some Go.Proofs.Tryz.f194 := Go.Proofs.Tryz.func194
theorem slices_IndexFunc_Item_is : IsFn Go.Proofs.Tryz.prog slices_IndexFunc_Item := ⟨_, Go.Proofs.Tryz.func194, rfl, by kernel_rfl⟩
abbrev shelf_Shelf_Copy : FuncId := 195
theorem shelf_Shelf_Copy_f : Go.Proofs.Tryz.prog.funcs[shelf_Shelf_Copy]? = some Go.Proofs.Tryz.f195 := Go.Proofs.Tryz.func195
theorem shelf_Shelf_Copy_is : IsFn Go.Proofs.Tryz.prog shelf_Shelf_Copy := ⟨_, Go.Proofs.Tryz.func195, rfl, by kernel_rfl⟩
def shelf_Shelf_Copy_d (i : Nat) : List (Nat × Nat × Bool × List Nat) := bif Nat.beq i 3 then [(0, 0, false, []), (1, 0, false, []), (2, 0, false, []), (3, 1, true, []), (4, 0, false, []), (5, 0, false, []), (6, 0, false, []), (7, 1, true, []), (8, 0, false, []), (9, 0, false, []), (10, 0, false, []), (11, 1, false, []), (12, 2, false, [3, 7]), (13, 0, false, []), (14, 2, false, []), (15, 0, false, [])] else []
abbrev view_View_place : FuncId := 196
theorem view_View_place_f : Go.Proofs.Tryz.prog.funcs[view_View_place]? = some Go.Proofs.Tryz.f196 := Go.Proofs.Tryz.func196
theorem view_View_place_is : IsFn Go.Proofs.Tryz.prog view_View_place := ⟨_, Go.Proofs.Tryz.func196, rfl, by kernel_rfl⟩
abbrev slices_Insert_part : FuncId := 197
theorem slices_Insert_part_f : Go.Proofs.Tryz.prog.funcs[slices_Insert_part]? = some Go.Proofs.Tryz.f197 := Go.Proofs.Tryz.func197
theorem slices_Insert_part_is : IsFn Go.Proofs.Tryz.prog slices_Insert_part := ⟨_, Go.Proofs.Tryz.func197, rfl, by kernel_rfl⟩
def slices_Insert_part_d (i : Nat) : List (Nat × Nat × Bool × List Nat) := bif Nat.beq i 11 then [(0, 0, false, []), (1, 0, false, []), (2, 0, false, []), (3, 0, false, []), (4, 0, false, []), (5, 0, false, []), (6, 0, false, []), (7, 0, false, []), (8, 2, false, [])] else bif Nat.beq i 15 then [(0, 0, false, []), (1, 0, false, []), (2, 0, false, []), (3, 0, false, []), (4, 0, false, []), (5, 0, false, []), (6, 0, false, []), (7, 0, false, []), (8, 2, false, [])] else []
abbrev view_alike : FuncId := 198
theorem view_alike_f : Go.Proofs.Tryz.prog.funcs[view_alike]? = some Go.Proofs.Tryz.f198 := Go.Proofs.Tryz.func198
theorem view_alike_is : IsFn Go.Proofs.Tryz.prog view_alike := ⟨_, Go.Proofs.Tryz.func198, rfl, by kernel_rfl⟩
abbrev strings_Clone : FuncId := 199
theorem strings_Clone_f : Go.Proofs.Tryz.prog.funcs[strings_Clone]? = some Go.Proofs.Tryz.f199 := Go.Proofs.Tryz.func199
theorem strings_Clone_is : IsFn Go.Proofs.Tryz.prog strings_Clone := ⟨_, Go.Proofs.Tryz.func199, rfl, by kernel_rfl⟩
abbrev shelf_node_put : FuncId := 200
theorem shelf_node_put_f : Go.Proofs.Tryz.prog.funcs[shelf_node_put]? = some Go.Proofs.Tryz.f200 := Go.Proofs.Tryz.func200
theorem shelf_node_put_is : IsFn Go.Proofs.Tryz.prog shelf_node_put := ⟨_, Go.Proofs.Tryz.func200, rfl, by kernel_rfl⟩
def shelf_node_put_a4 : List (Nat × Nat × Bool × List Nat) := [(0, 0, false, []), (1, 0, false, []), (2, 0, false, []), (3, 1, false, []), (4, 0, false, []), (5, 0, false, []), (6, 1, false, []), (7, 1, false, []), (8, 2, false, []), (9, 0, false, []), (10, 0, false, []), (11, 0, false, []), (12, 2, false, []), (13, 2, false, []), (14, 0, false, [])]
def shelf_node_put_b4 : List (Nat × Nat × Bool × List Nat) := [(0, 0, false, []), (1, 0, false, []), (2, 0, false, []), (3, 1, true, []), (4, 0, false, []), (5, 0, false, []), (6, 1, true, []), (7, 1, true, []), (12, 2, false, [3, 6, 7]), (8, 2, false, []), (9, 0, false, []), (10, 0, false, []), (11, 0, false, []), (13, 2, false, []), (14, 0, false, [])]
def shelf_node_put_d (i : Nat) : List (Nat × Nat × Bool × List Nat) := bif Nat.beq i 3 then [(0, 0, false, []), (1, 0, false, []), (2, 0, false, []), (3, 0, false, []), (4, 1, true, []), (5, 0, false, []), (6, 1, false, []), (7, 2, false, [4]), (8, 2, false, []), (9, 0, false, []), (10, 0, false, []), (11, 2, false, [])] else bif Nat.beq i 6 then [(0, 0, false, []), (1, 0, false, []), (2, 0, false, []), (3, 0, false, []), (4, 1, true, []), (5, 0, false, []), (6, 1, false, []), (7, 2, false, [4]), (8, 2, false, []), (9, 0, false, []), (10, 0, false, []), (11, 2, false, [])] else []
abbrev walk_Range_1 : FuncId := 201
theorem walk_Range_1_f : Go.Proofs.Tryz.prog.funcs[walk_Range_1]? = some Go.Proofs.Tryz.f201 := Go.Proofs.Tryz.func201
theorem walk_Range_1_is : IsFn Go.Proofs.Tryz.prog walk_Range_1 := ⟨_, Go.Proofs.Tryz.func201, rfl, by kernel_rfl⟩
abbrev walk_All : FuncId := 202
theorem walk_All_f : Go.Proofs.Tryz.prog.funcs[walk_All]? = some Go.Proofs.Tryz.f202 := Go.Proofs.Tryz.func202
theorem walk_All_is : IsFn Go.Proofs.Tryz.prog walk_All := ⟨_, Go.Proofs.Tryz.func202, rfl, by kernel_rfl⟩
abbrev strings_TrimRight : FuncId := 203
theorem strings_TrimRight_f : Go.Proofs.Tryz.prog.funcs[strings_TrimRight]? = some Go.Proofs.Tryz.f203 := Go.Proofs.Tryz.func203
theorem strings_TrimRight_is : IsFn Go.Proofs.Tryz.prog strings_TrimRight := ⟨_, Go.Proofs.Tryz.func203, rfl, by kernel_rfl⟩
abbrev shelf_node_place : FuncId := 204
theorem shelf_node_place_f : Go.Proofs.Tryz.prog.funcs[shelf_node_place]? = some Go.Proofs.Tryz.f204 := Go.Proofs.Tryz.func204
theorem shelf_node_place_is : IsFn Go.Proofs.Tryz.prog shelf_node_place := ⟨_, Go.Proofs.Tryz.func204, rfl, by kernel_rfl⟩
abbrev slices_Delete_Item : FuncId := 205
theorem slices_Delete_Item_f : Go.Proofs.Tryz.prog.funcs[slices_Delete_Item]? = some Go.Proofs.Tryz.f205 := Go.Proofs.Tryz.func205
theorem slices_Delete_Item_is : IsFn Go.Proofs.Tryz.prog slices_Delete_Item := ⟨_, Go.Proofs.Tryz.func205, rfl, by kernel_rfl⟩
def slices_Delete_Item_d (i : Nat) : List (Nat × Nat × Bool × List Nat) := bif Nat.beq i 5 then [(0, 0, false, []), (1, 0, false, []), (2, 0, false, []), (3, 0, false, []), (4, 0, false, []), (5, 0, false, []), (6, 2, false, []), (7, 0, false, [])] else []
abbrev shelf_node_last : FuncId := 206
theorem shelf_node_last_f : Go.Proofs.Tryz.prog.funcs[shelf_node_last]? = some Go.Proofs.Tryz.f206 := Go.Proofs.Tryz.func206
theorem shelf_node_last_is : IsFn Go.Proofs.Tryz.prog shelf_node_last := ⟨_, Go.Proofs.Tryz.func206, rfl, by kernel_rfl⟩
def shelf_node_last_d (i : Nat) : List (Nat × Nat × Bool × List Nat) := bif Nat.beq i 2 then [(0, 0, false, []), (1, 0, false, []), (2, 0, false, []), (3, 1, false, []), (4, 0, false, []), (5, 0, false, []), (6, 0, false, []), (7, 1, false, []), (8, 0, false, []), (9, 0, false, []), (10, 0, false, []), (11, 1, false, []), (12, 0, false, [])] else bif Nat.beq i 3 then [(0, 0, false, []), (1, 0, false, []), (2, 0, false, []), (3, 1, false, []), (4, 0, false, []), (5, 0, false, []), (6, 0, false, []), (7, 1, false, []), (8, 0, false, []), (9, 0, false, []), (10, 0, false, []), (11, 1, false, []), (12, 2, false, [])] else []
abbrev shelf_node_fill : FuncId := 207
theorem shelf_node_fill_f : Go.Proofs.Tryz.prog.funcs[shelf_node_fill]? = some Go.Proofs.Tryz.f207 := Go.Proofs.Tryz.func207
theorem shelf_node_fill_is : IsFn Go.Proofs.Tryz.prog shelf_node_fill := ⟨_, Go.Proofs.Tryz.func207, rfl, by kernel_rfl⟩
abbrev slices_IndexFunc_pointer : FuncId := 208
theorem slices_IndexFunc_pointer_f : Go.Proofs.Tryz.prog.funcs[slices_IndexFunc_pointer]? = some Go.Proofs.Tryz.f208 := Go.Proofs.Tryz.func208
theorem slices_IndexFunc_pointer_is : IsFn Go.Proofs.Tryz.prog slices_IndexFunc_pointer := ⟨_, Go.Proofs.Tryz.func208, rfl, by kernel_rfl⟩
abbrev give_Give_left_1 : FuncId := 209
theorem give_Give_left_1_f : Go.Proofs.Tryz.prog.funcs[give_Give_left_1]? = some Go.Proofs.Tryz.f209 := Go.Proofs.Tryz.func209
theorem give_Give_left_1_is : IsFn Go.Proofs.Tryz.prog give_Give_left_1 := ⟨_, Go.Proofs.Tryz.func209, rfl, by kernel_rfl⟩
abbrev rosref10_View_at : FuncId := 210
theorem rosref10_View_at_f : Go.Proofs.Tryz.prog.funcs[rosref10_View_at]? = some Go.Proofs.Tryz.f210 := Go.Proofs.Tryz.func210
theorem rosref10_View_at_is : IsFn Go.Proofs.Tryz.prog rosref10_View_at := ⟨_, Go.Proofs.Tryz.func210, rfl, by kernel_rfl⟩
abbrev rosref1_Wide : FuncId := 211
theorem rosref1_Wide_f : Go.Proofs.Tryz.prog.funcs[rosref1_Wide]? = some Go.Proofs.Tryz.f211 := Go.Proofs.Tryz.func211
theorem rosref1_Wide_is : IsFn Go.Proofs.Tryz.prog rosref1_Wide := ⟨_, Go.Proofs.Tryz.func211, rfl, by kernel_rfl⟩
abbrev rosbook_SameEvent : FuncId := 212
theorem rosbook_SameEvent_f : Go.Proofs.Tryz.prog.funcs[rosbook_SameEvent]? = some Go.Proofs.Tryz.f212 := Go.Proofs.Tryz.func212
theorem rosbook_SameEvent_is : IsFn Go.Proofs.Tryz.prog rosbook_SameEvent := ⟨_, Go.Proofs.Tryz.func212, rfl, by kernel_rfl⟩
abbrev rosbook_name : FuncId := 213
theorem rosbook_name_f : Go.Proofs.Tryz.prog.funcs[rosbook_name]? = some Go.Proofs.Tryz.f213 := Go.Proofs.Tryz.func213
theorem rosbook_name_is : IsFn Go.Proofs.Tryz.prog rosbook_name := ⟨_, Go.Proofs.Tryz.func213, rfl, by kernel_rfl⟩
abbrev shelf_node_copied : FuncId := 214
theorem shelf_node_copied_f : Go.Proofs.Tryz.prog.funcs[shelf_node_copied]? = some Go.Proofs.Tryz.f214 := Go.Proofs.Tryz.func214
theorem shelf_node_copied_is : IsFn Go.Proofs.Tryz.prog shelf_node_copied := ⟨_, Go.Proofs.Tryz.func214, rfl, by kernel_rfl⟩
def shelf_node_copied_d (i : Nat) : List (Nat × Nat × Bool × List Nat) := bif Nat.beq i 7 then [(0, 0, false, []), (1, 0, false, []), (2, 0, false, []), (3, 0, false, []), (4, 1, true, []), (5, 0, false, []), (6, 2, false, [4]), (7, 2, false, [4]), (8, 2, false, []), (9, 0, false, []), (10, 0, false, []), (11, 2, false, [])] else []
abbrev slices_rotateRight_part : FuncId := 216
theorem slices_rotateRight_part_f : Go.Proofs.Tryz.prog.funcs[slices_rotateRight_part]? = some Go.Proofs.Tryz.f216 := Go.Proofs.Tryz.func216
theorem slices_rotateRight_part_is : IsFn Go.Proofs.Tryz.prog slices_rotateRight_part := ⟨_, Go.Proofs.Tryz.func216, rfl, by kernel_rfl⟩
abbrev internal_stringslite_Clone : FuncId := 217
theorem internal_stringslite_Clone_f : Go.Proofs.Tryz.prog.funcs[internal_stringslite_Clone]? = some Go.Proofs.Tryz.f217 := Go.Proofs.Tryz.func217
theorem internal_stringslite_Clone_is : IsFn Go.Proofs.Tryz.prog internal_stringslite_Clone := ⟨_, Go.Proofs.Tryz.func217, rfl, by kernel_rfl⟩
abbrev slices_Insert_Item : FuncId := 218
theorem slices_Insert_Item_f : Go.Proofs.Tryz.prog.funcs[slices_Insert_Item]? = some Go.Proofs.Tryz.f218 := Go.Proofs.Tryz.func218
theorem slices_Insert_Item_is : IsFn Go.Proofs.Tryz.prog slices_Insert_Item := ⟨_, Go.Proofs.Tryz.func218, rfl, by kernel_rfl⟩
def slices_Insert_Item_d (i : Nat) : List (Nat × Nat × Bool × List Nat) := bif Nat.beq i 11 then [(0, 0, false, []), (1, 0, false, []), (2, 0, false, []), (3, 0, false, []), (4, 0, false, []), (5, 0, false, []), (6, 0, false, []), (7, 0, false, []), (8, 2, false, [])] else bif Nat.beq i 15 then [(0, 0, false, []), (1, 0, false, []), (2, 0, false, []), (3, 0, false, []), (4, 0, false, []), (5, 0, false, []), (6, 0, false, []), (7, 0, false, []), (8, 2, false, [])] else []
abbrev slices_Insert_node : FuncId := 219
theorem slices_Insert_node_f : Go.Proofs.Tryz.prog.funcs[slices_Insert_node]? = some Go.Proofs.Tryz.f219 := Go.Proofs.Tryz.func219
theorem slices_Insert_node_is : IsFn Go.Proofs.Tryz.prog slices_Insert_node := ⟨_, Go.Proofs.Tryz.func219, rfl, by kernel_rfl⟩
def slices_Insert_node_d (i : Nat) : List (Nat × Nat × Bool × List Nat) := bif Nat.beq i 11 then [(0, 0, false, []), (1, 0, false, []), (2, 0, false, []), (3, 0, false, []), (4, 0, false, []), (5, 0, false, []), (6, 0, false, []), (7, 0, false, []), (8, 2, false, [])] else bif Nat.beq i 15 then [(0, 0, false, []), (1, 0, false, []), (2, 0, false, []), (3, 0, false, []), (4, 0, false, []), (5, 0, false, []), (6, 0, false, []), (7, 0, false, []), (8, 2, false, [])] else []
abbrev slices_Clone_node : FuncId := 220
theorem slices_Clone_node_f : Go.Proofs.Tryz.prog.funcs[slices_Clone_node]? = some Go.Proofs.Tryz.f220 := Go.Proofs.Tryz.func220
theorem slices_Clone_node_is : IsFn Go.Proofs.Tryz.prog slices_Clone_node := ⟨_, Go.Proofs.Tryz.func220, rfl, by kernel_rfl⟩
abbrev walk_All_1 : FuncId := 221
theorem walk_All_1_f : Go.Proofs.Tryz.prog.funcs[walk_All_1]? = some Go.Proofs.Tryz.f221 := Go.Proofs.Tryz.func221
theorem walk_All_1_is : IsFn Go.Proofs.Tryz.prog walk_All_1 := ⟨_, Go.Proofs.Tryz.func221, rfl, by kernel_rfl⟩
abbrev strings_trimRightByte : FuncId := 222
theorem strings_trimRightByte_f : Go.Proofs.Tryz.prog.funcs[strings_trimRightByte]? = some Go.Proofs.Tryz.f222 := Go.Proofs.Tryz.func222
theorem strings_trimRightByte_is : IsFn Go.Proofs.Tryz.prog strings_trimRightByte := ⟨_, Go.Proofs.Tryz.func222, rfl, by kernel_rfl⟩
abbrev strings_makeASCIISet : FuncId := 223
theorem strings_makeASCIISet_f : Go.Proofs.Tryz.prog.funcs[strings_makeASCIISet]? = some Go.Proofs.Tryz.f223 := Go.Proofs.Tryz.func223
theorem strings_makeASCIISet_is : IsFn Go.Proofs.Tryz.prog strings_makeASCIISet := ⟨_, Go.Proofs.Tryz.func223, rfl, by kernel_rfl⟩
abbrev strings_trimRightASCII : FuncId := 224
theorem strings_trimRightASCII_f : Go.Proofs.Tryz.prog.funcs[strings_trimRightASCII]? = some Go.Proofs.Tryz.f224 := Go.Proofs.Tryz.func224
theorem strings_trimRightASCII_is : IsFn Go.Proofs.Tryz.prog strings_trimRightASCII := ⟨_, Go.Proofs.Tryz.func224, rfl, by kernel_rfl⟩
abbrev strings_trimRightUnicode : FuncId := 225
theorem strings_trimRightUnicode_f : Go.Proofs.Tryz.prog.funcs[strings_trimRightUnicode]? = some Go.Proofs.Tryz.f225 := Go.Proofs.Tryz.func225
theorem strings_trimRightUnicode_is : IsFn Go.Proofs.Tryz.prog strings_trimRightUnicode := ⟨_, Go.Proofs.Tryz.func225, rfl, by kernel_rfl⟩
abbrev shelf_node_fromLeft : FuncId := 226
theorem shelf_node_fromLeft_f : Go.Proofs.Tryz.prog.funcs[shelf_node_fromLeft]? = some Go.Proofs.Tryz.f226 := Go.Proofs.Tryz.func226
theorem shelf_node_fromLeft_is : IsFn Go.Proofs.Tryz.prog shelf_node_fromLeft := ⟨_, Go.Proofs.Tryz.func226, rfl, by kernel_rfl⟩
def shelf_node_fromLeft_d (i : Nat) : List (Nat × Nat × Bool × List Nat) := bif Nat.beq i 0 then [(0, 0, false, []), (1, 0, false, []), (2, 0, false, []), (3, 1, false, []), (4, 0, false, []), (5, 0, false, []), (6, 0, false, []), (7, 1, false, []), (8, 0, false, []), (9, 0, false, []), (10, 0, false, []), (11, 1, false, []), (12, 0, false, []), (13, 0, false, []), (14, 1, false, []), (15, 0, false, []), (16, 0, false, [])] else bif Nat.beq i 2 then [(0, 0, false, []), (1, 0, false, []), (2, 0, false, []), (3, 0, false, []), (4, 1, true, []), (5, 0, false, []), (6, 0, false, []), (7, 0, false, []), (8, 1, false, []), (9, 0, false, []), (10, 0, false, []), (11, 0, false, []), (12, 1, false, []), (13, 2, false, [4]), (14, 2, false, []), (15, 0, false, []), (16, 0, false, []), (17, 2, false, [])] else bif Nat.beq i 3 then [(0, 0, false, []), (1, 0, false, []), (2, 0, false, []), (3, 1, false, []), (4, 0, false, []), (5, 0, false, []), (6, 0, false, []), (7, 0, false, []), (8, 0, false, []), (9, 1, false, []), (10, 0, false, []), (11, 0, false, []), (12, 1, false, []), (13, 0, false, []), (14, 2, false, [])] else bif Nat.beq i 6 then [(0, 0, false, []), (1, 0, false, []), (2, 0, false, []), (3, 0, false, []), (4, 1, true, []), (5, 0, false, []), (6, 0, false, []), (7, 0, false, []), (8, 1, false, []), (9, 0, false, []), (10, 0, false, []), (11, 0, false, []), (12, 1, false, []), (13, 2, false, [4]), (14, 2, false, []), (15, 0, false, []), (16, 0, false, []), (17, 2, false, [])] else []
abbrev shelf_node_fromRight : FuncId := 227
theorem shelf_node_fromRight_f : Go.Proofs.Tryz.prog.funcs[shelf_node_fromRight]? = some Go.Proofs.Tryz.f227 := Go.Proofs.Tryz.func227
theorem shelf_node_fromRight_is : IsFn Go.Proofs.Tryz.prog shelf_node_fromRight := ⟨_, Go.Proofs.Tryz.func227, rfl, by kernel_rfl⟩
def shelf_node_fromRight_d (i : Nat) : List (Nat × Nat × Bool × List Nat) := bif Nat.beq i 0 then [(0, 0, false, []), (1, 0, false, []), (2, 0, false, []), (3, 1, false, []), (4, 0, false, []), (5, 0, false, []), (6, 1, false, []), (7, 0, false, []), (8, 0, false, []), (9, 0, false, []), (10, 1, false, []), (11, 0, false, []), (12, 0, false, []), (13, 0, false, []), (14, 1, false, []), (15, 0, false, []), (16, 0, false, [])] else bif Nat.beq i 1 then [(0, 0, false, []), (1, 0, false, []), (2, 0, false, []), (3, 0, false, []), (4, 1, true, []), (5, 0, false, []), (6, 0, false, []), (7, 0, false, []), (8, 1, false, []), (9, 0, false, []), (10, 0, false, []), (11, 1, false, []), (12, 2, false, [4]), (13, 2, false, []), (14, 0, false, []), (15, 0, false, []), (16, 2, false, [])] else bif Nat.beq i 2 then [(0, 0, false, []), (1, 0, false, []), (2, 0, false, []), (3, 1, false, []), (4, 0, false, []), (5, 0, false, []), (6, 0, false, []), (7, 0, false, []), (8, 1, false, []), (9, 0, false, []), (10, 1, false, []), (11, 0, false, []), (12, 2, false, [])] else bif Nat.beq i 5 then [(0, 0, false, []), (1, 0, false, []), (2, 0, false, []), (3, 0, false, []), (4, 1, true, []), (5, 0, false, []), (6, 0, false, []), (7, 0, false, []), (8, 1, false, []), (9, 0, false, []), (10, 1, false, []), (11, 2, false, [4]), (12, 2, false, []), (13, 0, false, []), (14, 0, false, []), (15, 2, false, [])] else []
abbrev shelf_node_merge : FuncId := 228
theorem shelf_node_merge_f : Go.Proofs.Tryz.prog.funcs[shelf_node_merge]? = some Go.Proofs.Tryz.f228 := Go.Proofs.Tryz.func228
theorem shelf_node_merge_is : IsFn Go.Proofs.Tryz.prog shelf_node_merge := ⟨_, Go.Proofs.Tryz.func228, rfl, by kernel_rfl⟩
def shelf_node_merge_d (i : Nat) : List (Nat × Nat × Bool × List Nat) := bif Nat.beq i 0 then [(0, 0, false, []), (1, 0, false, []), (2, 0, false, []), (3, 1, false, []), (4, 0, false, []), (5, 0, false, []), (6, 1, false, []), (7, 0, false, []), (8, 0, false, []), (9, 0, false, []), (10, 1, false, []), (11, 0, false, []), (12, 0, false, []), (13, 0, false, []), (14, 1, false, []), (15, 0, false, []), (16, 0, false, [])] else bif Nat.beq i 1 then [(0, 0, false, []), (1, 0, false, []), (2, 0, false, []), (3, 0, false, []), (4, 1, true, []), (5, 0, false, []), (6, 0, false, []), (7, 0, false, []), (8, 1, false, []), (9, 0, false, []), (10, 0, false, []), (11, 1, false, []), (13, 0, false, []), (14, 0, false, []), (15, 0, false, []), (16, 1, true, []), (12, 2, false, [4, 16]), (17, 2, false, []), (18, 2, false, []), (19, 0, false, []), (20, 0, false, []), (21, 2, false, [])] else bif Nat.beq i 2 then [(0, 0, false, []), (1, 0, false, []), (2, 0, false, []), (3, 0, false, []), (4, 1, false, []), (5, 0, false, []), (6, 0, false, []), (7, 0, false, []), (8, 1, false, []), (9, 2, false, []), (10, 2, false, []), (11, 0, false, []), (12, 0, false, []), (13, 2, false, [])] else []
abbrev slices_rotateLeft_part : FuncId := 229
theorem slices_rotateLeft_part_f : Go.Proofs.Tryz.prog.funcs[slices_rotateLeft_part]? = some Go.Proofs.Tryz.f229 := Go.Proofs.Tryz.func229
theorem slices_rotateLeft_part_is : IsFn Go.Proofs.Tryz.prog slices_rotateLeft_part := ⟨_, Go.Proofs.Tryz.func229, rfl, by kernel_rfl⟩
abbrev slices_rotateRight_Item : FuncId := 231
theorem slices_rotateRight_Item_f : Go.Proofs.Tryz.prog.funcs[slices_rotateRight_Item]? = some Go.Proofs.Tryz.f231 := Go.Proofs.Tryz.func231
theorem slices_rotateRight_Item_is : IsFn Go.Proofs.Tryz.prog slices_rotateRight_Item := ⟨_, Go.Proofs.Tryz.func231, rfl, by kernel_rfl⟩
abbrev slices_rotateRight_node : FuncId := 233
theorem slices_rotateRight_node_f : Go.Proofs.Tryz.prog.funcs[slices_rotateRight_node]? = some Go.Proofs.Tryz.f233 := Go.Proofs.Tryz.func233
theorem slices_rotateRight_node_is : IsFn Go.Proofs.Tryz.prog slices_rotateRight_node := ⟨_, Go.Proofs.Tryz.func233, rfl, by kernel_rfl⟩
abbrev strings_asciiSet_contains : FuncId := 234
theorem strings_asciiSet_contains_f : Go.Proofs.Tryz.prog.funcs[strings_asciiSet_contains]? = some Go.Proofs.Tryz.f234 := Go.Proofs.Tryz.func234
theorem strings_asciiSet_contains_is : IsFn Go.Proofs.Tryz.prog strings_asciiSet_contains := ⟨_, Go.Proofs.Tryz.func234, rfl, by kernel_rfl⟩
abbrev unicode_utf8_DecodeLastRuneInString : FuncId := 235
theorem unicode_utf8_DecodeLastRuneInString_f : Go.Proofs.Tryz.prog.funcs[unicode_utf8_DecodeLastRuneInString]? = some Go.Proofs.Tryz.f235 := Go.Proofs.Tryz.func235
theorem unicode_utf8_DecodeLastRuneInString_is : IsFn Go.Proofs.Tryz.prog unicode_utf8_DecodeLastRuneInString := ⟨_, Go.Proofs.Tryz.func235, rfl, by kernel_rfl⟩
abbrev strings_ContainsRune : FuncId := 236
theorem strings_ContainsRune_f : Go.Proofs.Tryz.prog.funcs[strings_ContainsRune]? = some Go.Proofs.Tryz.f236 := Go.Proofs.Tryz.func236
theorem strings_ContainsRune_is : IsFn Go.Proofs.Tryz.prog strings_ContainsRune := ⟨_, Go.Proofs.Tryz.func236, rfl, by kernel_rfl⟩
abbrev slices_Delete_node : FuncId := 237
theorem slices_Delete_node_f : Go.Proofs.Tryz.prog.funcs[slices_Delete_node]? = some Go.Proofs.Tryz.f237 := Go.Proofs.Tryz.func237
theorem slices_Delete_node_is : IsFn Go.Proofs.Tryz.prog slices_Delete_node := ⟨_, Go.Proofs.Tryz.func237, rfl, by kernel_rfl⟩
def slices_Delete_node_d (i : Nat) : List (Nat × Nat × Bool × List Nat) := bif Nat.beq i 5 then [(0, 0, false, []), (1, 0, false, []), (2, 0, false, []), (3, 0, false, []), (4, 0, false, []), (5, 0, false, []), (6, 2, false, []), (7, 0, false, [])] else []
abbrev slices_Concat_Item : FuncId := 238
theorem slices_Concat_Item_f : Go.Proofs.Tryz.prog.funcs[slices_Concat_Item]? = some Go.Proofs.Tryz.f238 := Go.Proofs.Tryz.func238
theorem slices_Concat_Item_is : IsFn Go.Proofs.Tryz.prog slices_Concat_Item := ⟨_, Go.Proofs.Tryz.func238, rfl, by kernel_rfl⟩
abbrev slices_Concat_node : FuncId := 239
theorem slices_Concat_node_f : Go.Proofs.Tryz.prog.funcs[slices_Concat_node]? = some Go.Proofs.Tryz.f239 := Go.Proofs.Tryz.func239
theorem slices_Concat_node_is : IsFn Go.Proofs.Tryz.prog slices_Concat_node := ⟨_, Go.Proofs.Tryz.func239, rfl, by kernel_rfl⟩
abbrev slices_Reverse_part : FuncId := 240
theorem slices_Reverse_part_f : Go.Proofs.Tryz.prog.funcs[slices_Reverse_part]? = some Go.Proofs.Tryz.f240 := Go.Proofs.Tryz.func240
theorem slices_Reverse_part_is : IsFn Go.Proofs.Tryz.prog slices_Reverse_part := ⟨_, Go.Proofs.Tryz.func240, rfl, by kernel_rfl⟩
def slices_Reverse_part_d (i : Nat) : List (Nat × Nat × Bool × List Nat) := bif Nat.beq i 3 then [(0, 0, false, []), (1, 0, false, []), (2, 0, false, []), (3, 0, false, []), (4, 0, false, []), (5, 0, false, []), (6, 0, false, []), (7, 1, false, []), (8, 0, false, []), (9, 0, false, []), (10, 0, false, []), (11, 1, false, []), (12, 0, false, []), (13, 2, false, []), (14, 0, false, []), (15, 2, false, [])] else []
abbrev slices_rotateLeft_Item : FuncId := 241
theorem slices_rotateLeft_Item_f : Go.Proofs.Tryz.prog.funcs[slices_rotateLeft_Item]? = some Go.Proofs.Tryz.f241 := Go.Proofs.Tryz.func241
theorem slices_rotateLeft_Item_is : IsFn Go.Proofs.Tryz.prog slices_rotateLeft_Item := ⟨_, Go.Proofs.Tryz.func241, rfl, by kernel_rfl⟩
abbrev slices_rotateLeft_node : FuncId := 242
theorem slices_rotateLeft_node_f : Go.Proofs.Tryz.prog.funcs[slices_rotateLeft_node]? = some Go.Proofs.Tryz.f242 := Go.Proofs.Tryz.func242
theorem slices_rotateLeft_node_is : IsFn Go.Proofs.Tryz.prog slices_rotateLeft_node := ⟨_, Go.Proofs.Tryz.func242, rfl, by kernel_rfl⟩
abbrev unicode_utf8_RuneStart : FuncId := 243
theorem unicode_utf8_RuneStart_f : Go.Proofs.Tryz.prog.funcs[unicode_utf8_RuneStart]? = some Go.Proofs.Tryz.f243 := Go.Proofs.Tryz.func243
theorem unicode_utf8_RuneStart_is : IsFn Go.Proofs.Tryz.prog unicode_utf8_RuneStart := ⟨_, Go.Proofs.Tryz.func243, rfl, by kernel_rfl⟩
abbrev unicode_utf8_DecodeRuneInString : FuncId := 244
theorem unicode_utf8_DecodeRuneInString_f : Go.Proofs.Tryz.prog.funcs[unicode_utf8_DecodeRuneInString]? = some Go.Proofs.Tryz.f244 := Go.Proofs.Tryz.func244
theorem unicode_utf8_DecodeRuneInString_is : IsFn Go.Proofs.Tryz.prog unicode_utf8_DecodeRuneInString := ⟨_, Go.Proofs.Tryz.func244, rfl, by kernel_rfl⟩
abbrev strings_IndexRune : FuncId := 245
theorem strings_IndexRune_f : Go.Proofs.Tryz.prog.funcs[strings_IndexRune]? = some Go.Proofs.Tryz.f245 := Go.Proofs.Tryz.func245
theorem strings_IndexRune_is : IsFn Go.Proofs.Tryz.prog strings_IndexRune := ⟨_, Go.Proofs.Tryz.func245, rfl, by kernel_rfl⟩
def strings_IndexRune_d (i : Nat) : List (Nat × Nat × Bool × List Nat) := bif Nat.beq i 6 then [(0, 0, false, []), (1, 0, false, []), (2, 0, false, []), (3, 0, false, []), (4, 0, false, []), (5, 0, false, []), (6, 0, false, [])] else bif Nat.beq i 7 then [(0, 0, false, []), (1, 0, false, []), (2, 0, false, []), (3, 0, false, []), (4, 0, false, []), (5, 0, false, []), (6, 0, false, []), (7, 2, false, []), (8, 0, false, [])] else bif Nat.beq i 14 then [(0, 0, false, []), (1, 0, false, []), (2, 0, false, []), (3, 0, false, []), (4, 0, false, []), (5, 0, false, []), (6, 0, false, []), (7, 0, false, []), (8, 0, false, []), (9, 0, false, []), (10, 0, false, [])] else bif Nat.beq i 31 then [(0, 0, false, []), (1, 0, false, []), (2, 0, false, []), (3, 0, false, []), (4, 0, false, []), (5, 0, false, []), (6, 0, false, []), (7, 0, false, []), (8, 0, false, []), (9, 0, false, []), (10, 0, false, [])] else []
abbrev slices_Grow_Item : FuncId := 246
theorem slices_Grow_Item_f : Go.Proofs.Tryz.prog.funcs[slices_Grow_Item]? = some Go.Proofs.Tryz.f246 := Go.Proofs.Tryz.func246
theorem slices_Grow_Item_is : IsFn Go.Proofs.Tryz.prog slices_Grow_Item := ⟨_, Go.Proofs.Tryz.func246, rfl, by kernel_rfl⟩
abbrev slices_Grow_node : FuncId := 247
theorem slices_Grow_node_f : Go.Proofs.Tryz.prog.funcs[slices_Grow_node]? = some Go.Proofs.Tryz.f247 := Go.Proofs.Tryz.func247
theorem slices_Grow_node_is : IsFn Go.Proofs.Tryz.prog slices_Grow_node := ⟨_, Go.Proofs.Tryz.func247, rfl, by kernel_rfl⟩
abbrev slices_Reverse_Item : FuncId := 248
theorem slices_Reverse_Item_f : Go.Proofs.Tryz.prog.funcs[slices_Reverse_Item]? = some Go.Proofs.Tryz.f248 := Go.Proofs.Tryz.func248
theorem slices_Reverse_Item_is : IsFn Go.Proofs.Tryz.prog slices_Reverse_Item := ⟨_, Go.Proofs.Tryz.func248, rfl, by kernel_rfl⟩
def slices_Reverse_Item_d (i : Nat) : List (Nat × Nat × Bool × List Nat) := bif Nat.beq i 3 then [(0, 0, false, []), (1, 0, false, []), (2, 0, false, []), (3, 0, false, []), (4, 0, false, []), (5, 0, false, []), (6, 0, false, []), (7, 1, false, []), (8, 0, false, []), (9, 0, false, []), (10, 0, false, []), (11, 1, false, []), (12, 0, false, []), (13, 2, false, []), (14, 0, false, []), (15, 2, false, [])] else []
abbrev slices_Reverse_node : FuncId := 249
theorem slices_Reverse_node_f : Go.Proofs.Tryz.prog.funcs[slices_Reverse_node]? = some Go.Proofs.Tryz.f249 := Go.Proofs.Tryz.func249
theorem slices_Reverse_node_is : IsFn Go.Proofs.Tryz.prog slices_Reverse_node := ⟨_, Go.Proofs.Tryz.func249, rfl, by kernel_rfl⟩
def slices_Reverse_node_d (i : Nat) : List (Nat × Nat × Bool × List Nat) := bif Nat.beq i 3 then [(0, 0, false, []), (1, 0, false, []), (2, 0, false, []), (3, 0, false, []), (4, 0, false, []), (5, 0, false, []), (6, 0, false, []), (7, 1, false, []), (8, 0, false, []), (9, 0, false, []), (10, 0, false, []), (11, 1, false, []), (12, 0, false, []), (13, 2, false, []), (14, 0, false, []), (15, 2, false, [])] else []
abbrev unicode_utf8_decodeRuneInStringSlow : FuncId := 250
theorem unicode_utf8_decodeRuneInStringSlow_f : Go.Proofs.Tryz.prog.funcs[unicode_utf8_decodeRuneInStringSlow]? = some Go.Proofs.Tryz.f250 := Go.Proofs.Tryz.func250
theorem unicode_utf8_decodeRuneInStringSlow_is : IsFn Go.Proofs.Tryz.prog unicode_utf8_decodeRuneInStringSlow := ⟨_, Go.Proofs.Tryz.func250, rfl, by kernel_rfl⟩
abbrev strings_IndexByte : FuncId := 251
theorem strings_IndexByte_f : Go.Proofs.Tryz.prog.funcs[strings_IndexByte]? = some Go.Proofs.Tryz.f251 := Go.Proofs.Tryz.func251
theorem strings_IndexByte_is : IsFn Go.Proofs.Tryz.prog strings_IndexByte := ⟨_, Go.Proofs.Tryz.func251, rfl, by kernel_rfl⟩
abbrev unicode_utf8_ValidRune : FuncId := 252
theorem unicode_utf8_ValidRune_f : Go.Proofs.Tryz.prog.funcs[unicode_utf8_ValidRune]? = some Go.Proofs.Tryz.f252 := Go.Proofs.Tryz.func252
theorem unicode_utf8_ValidRune_is : IsFn Go.Proofs.Tryz.prog unicode_utf8_ValidRune := ⟨_, Go.Proofs.Tryz.func252, rfl, by kernel_rfl⟩
abbrev internal_bytealg_Cutover : FuncId := 253
theorem internal_bytealg_Cutover_f : Go.Proofs.Tryz.prog.funcs[internal_bytealg_Cutover]? = some Go.Proofs.Tryz.f253 := Go.Proofs.Tryz.func253
theorem internal_bytealg_Cutover_is : IsFn Go.Proofs.Tryz.prog internal_bytealg_Cutover := ⟨_, Go.Proofs.Tryz.func253, rfl, by kernel_rfl⟩
abbrev internal_stringslite_IndexByte : FuncId := 255
theorem internal_stringslite_IndexByte_f : Go.Proofs.Tryz.prog.funcs[internal_stringslite_IndexByte]? = some Go.Proofs.Tryz.f255 := Go.Proofs.Tryz.func255
theorem internal_stringslite_IndexByte_is : IsFn Go.Proofs.Tryz.prog internal_stringslite_IndexByte := ⟨_, Go.Proofs.Tryz.func255, rfl, by kernel_rfl⟩
abbrev gosem_cut_vars : FuncId := 282
theorem gosem_cut_vars_f : Go.Proofs.Tryz.prog.funcs[gosem_cut_vars]? = some Go.Proofs.Tryz.f282 := Go.Proofs.Tryz.func282
theorem gosem_cut_vars_is : IsFn Go.Proofs.Tryz.prog gosem_cut_vars := ⟨_, Go.Proofs.Tryz.func282, rfl, by kernel_rfl⟩
end N
end Go.Rz
