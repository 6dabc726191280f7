/- The functions of this seat, and that they are those of the program. -/
import Derived.Test.YtopiaiibpacmlaaAf0
import Derived.Test.YtopiaiibpacmlaaAf1
import Derived.Test.YtopiaiibpacmlaaAf2
namespace Go.Proofs.Ytopiaiibpacmlaa.Av
def afs : List (Nat × AF) := [(3, af3), (4, af4), (5, af5), (6, af6), (7, af7), (8, af8), (9, af9), (10, af10), (11, af11), (12, af12), (13, af13), (14, af14), (15, af15), (16, af16), (17, af17), (18, af18), (19, af19), (20, af20), (21, af21), (22, af22), (23, af23), (24, af24), (25, af25), (26, af26), (27, af27), (28, af28), (29, af29), (30, af30), (31, af31), (32, af32), (33, af33), (34, af34), (35, af35), (36, af36), (37, af37), (38, af38), (39, af39), (40, af40), (41, af41), (42, af42), (43, af43), (44, af44), (45, af45), (46, af46), (47, af47), (48, af48), (49, af49), (50, af50), (51, af51), (52, af52), (53, af53), (54, af54), (55, af55), (56, af56), (57, af57), (58, af58), (59, af59), (60, af60), (61, af61), (62, af62), (63, af63), (64, af64), (65, af65), (66, af66), (67, af67), (68, af68), (69, af69), (70, af70), (71, af71), (72, af72), (73, af73), (74, af74), (75, af75), (76, af76), (77, af77), (78, af78), (79, af79), (80, af80), (81, af81), (82, af82), (83, af83), (84, af84), (85, af85), (86, af86), (87, af87), (88, af88), (89, af89), (90, af90), (91, af91), (92, af92), (93, af93), (94, af94), (95, af95), (97, af97), (98, af98), (99, af99), (100, af100), (101, af101), (102, af102), (103, af103), (104, af104), (105, af105), (106, af106), (107, af107), (108, af108), (109, af109), (110, af110), (111, af111), (112, af112), (113, af113), (114, af114), (115, af115), (116, af116), (117, af117), (118, af118), (119, af119), (120, af120), (121, af121), (122, af122), (123, af123), (124, af124), (125, af125), (126, af126), (127, af127), (128, af128), (129, af129), (130, af130), (131, af131), (132, af132), (133, af133), (134, af134), (135, af135), (136, af136), (137, af137), (138, af138), (139, af139), (140, af140), (141, af141), (144, af144), (146, af146), (147, af147), (150, af150)]
def prA (f : Nat) : Option AF := (afs.find? fun x => x.1 == f).map (·.2)
theorem afs_ok : ∀ x ∈ afs, OkAf x.1 x.2 := by
  unfold afs
  exact List.forall_mem_cons.2 ⟨ok3, List.forall_mem_cons.2 ⟨ok4, List.forall_mem_cons.2 ⟨ok5, List.forall_mem_cons.2 ⟨ok6, List.forall_mem_cons.2 ⟨ok7, List.forall_mem_cons.2 ⟨ok8, List.forall_mem_cons.2 ⟨ok9, List.forall_mem_cons.2 ⟨ok10, List.forall_mem_cons.2 ⟨ok11, List.forall_mem_cons.2 ⟨ok12, List.forall_mem_cons.2 ⟨ok13, List.forall_mem_cons.2 ⟨ok14, List.forall_mem_cons.2 ⟨ok15, List.forall_mem_cons.2 ⟨ok16, List.forall_mem_cons.2 ⟨ok17, List.forall_mem_cons.2 ⟨ok18, List.forall_mem_cons.2 ⟨ok19, List.forall_mem_cons.2 ⟨ok20, List.forall_mem_cons.2 ⟨ok21, List.forall_mem_cons.2 ⟨ok22, List.forall_mem_cons.2 ⟨ok23, List.forall_mem_cons.2 ⟨ok24, List.forall_mem_cons.2 ⟨ok25, List.forall_mem_cons.2 ⟨ok26, List.forall_mem_cons.2 ⟨ok27, List.forall_mem_cons.2 ⟨ok28, List.forall_mem_cons.2 ⟨ok29, List.forall_mem_cons.2 ⟨ok30, List.forall_mem_cons.2 ⟨ok31, List.forall_mem_cons.2 ⟨ok32, List.forall_mem_cons.2 ⟨ok33, List.forall_mem_cons.2 ⟨ok34, List.forall_mem_cons.2 ⟨ok35, List.forall_mem_cons.2 ⟨ok36, List.forall_mem_cons.2 ⟨ok37, List.forall_mem_cons.2 ⟨ok38, List.forall_mem_cons.2 ⟨ok39, List.forall_mem_cons.2 ⟨ok40, List.forall_mem_cons.2 ⟨ok41, List.forall_mem_cons.2 ⟨ok42, List.forall_mem_cons.2 ⟨ok43, List.forall_mem_cons.2 ⟨ok44, List.forall_mem_cons.2 ⟨ok45, List.forall_mem_cons.2 ⟨ok46, List.forall_mem_cons.2 ⟨ok47, List.forall_mem_cons.2 ⟨ok48, List.forall_mem_cons.2 ⟨ok49, List.forall_mem_cons.2 ⟨ok50, List.forall_mem_cons.2 ⟨ok51, List.forall_mem_cons.2 ⟨ok52, List.forall_mem_cons.2 ⟨ok53, List.forall_mem_cons.2 ⟨ok54, List.forall_mem_cons.2 ⟨ok55, List.forall_mem_cons.2 ⟨ok56, List.forall_mem_cons.2 ⟨ok57, List.forall_mem_cons.2 ⟨ok58, List.forall_mem_cons.2 ⟨ok59, List.forall_mem_cons.2 ⟨ok60, List.forall_mem_cons.2 ⟨ok61, List.forall_mem_cons.2 ⟨ok62, List.forall_mem_cons.2 ⟨ok63, List.forall_mem_cons.2 ⟨ok64, List.forall_mem_cons.2 ⟨ok65, List.forall_mem_cons.2 ⟨ok66, List.forall_mem_cons.2 ⟨ok67, List.forall_mem_cons.2 ⟨ok68, List.forall_mem_cons.2 ⟨ok69, List.forall_mem_cons.2 ⟨ok70, List.forall_mem_cons.2 ⟨ok71, List.forall_mem_cons.2 ⟨ok72, List.forall_mem_cons.2 ⟨ok73, List.forall_mem_cons.2 ⟨ok74, List.forall_mem_cons.2 ⟨ok75, List.forall_mem_cons.2 ⟨ok76, List.forall_mem_cons.2 ⟨ok77, List.forall_mem_cons.2 ⟨ok78, List.forall_mem_cons.2 ⟨ok79, List.forall_mem_cons.2 ⟨ok80, List.forall_mem_cons.2 ⟨ok81, List.forall_mem_cons.2 ⟨ok82, List.forall_mem_cons.2 ⟨ok83, List.forall_mem_cons.2 ⟨ok84, List.forall_mem_cons.2 ⟨ok85, List.forall_mem_cons.2 ⟨ok86, List.forall_mem_cons.2 ⟨ok87, List.forall_mem_cons.2 ⟨ok88, List.forall_mem_cons.2 ⟨ok89, List.forall_mem_cons.2 ⟨ok90, List.forall_mem_cons.2 ⟨ok91, List.forall_mem_cons.2 ⟨ok92, List.forall_mem_cons.2 ⟨ok93, List.forall_mem_cons.2 ⟨ok94, List.forall_mem_cons.2 ⟨ok95, List.forall_mem_cons.2 ⟨ok97, List.forall_mem_cons.2 ⟨ok98, List.forall_mem_cons.2 ⟨ok99, List.forall_mem_cons.2 ⟨ok100, List.forall_mem_cons.2 ⟨ok101, List.forall_mem_cons.2 ⟨ok102, List.forall_mem_cons.2 ⟨ok103, List.forall_mem_cons.2 ⟨ok104, List.forall_mem_cons.2 ⟨ok105, List.forall_mem_cons.2 ⟨ok106, List.forall_mem_cons.2 ⟨ok107, List.forall_mem_cons.2 ⟨ok108, List.forall_mem_cons.2 ⟨ok109, List.forall_mem_cons.2 ⟨ok110, List.forall_mem_cons.2 ⟨ok111, List.forall_mem_cons.2 ⟨ok112, List.forall_mem_cons.2 ⟨ok113, List.forall_mem_cons.2 ⟨ok114, List.forall_mem_cons.2 ⟨ok115, List.forall_mem_cons.2 ⟨ok116, List.forall_mem_cons.2 ⟨ok117, List.forall_mem_cons.2 ⟨ok118, List.forall_mem_cons.2 ⟨ok119, List.forall_mem_cons.2 ⟨ok120, List.forall_mem_cons.2 ⟨ok121, List.forall_mem_cons.2 ⟨ok122, List.forall_mem_cons.2 ⟨ok123, List.forall_mem_cons.2 ⟨ok124, List.forall_mem_cons.2 ⟨ok125, List.forall_mem_cons.2 ⟨ok126, List.forall_mem_cons.2 ⟨ok127, List.forall_mem_cons.2 ⟨ok128, List.forall_mem_cons.2 ⟨ok129, List.forall_mem_cons.2 ⟨ok130, List.forall_mem_cons.2 ⟨ok131, List.forall_mem_cons.2 ⟨ok132, List.forall_mem_cons.2 ⟨ok133, List.forall_mem_cons.2 ⟨ok134, List.forall_mem_cons.2 ⟨ok135, List.forall_mem_cons.2 ⟨ok136, List.forall_mem_cons.2 ⟨ok137, List.forall_mem_cons.2 ⟨ok138, List.forall_mem_cons.2 ⟨ok139, List.forall_mem_cons.2 ⟨ok140, List.forall_mem_cons.2 ⟨ok141, List.forall_mem_cons.2 ⟨ok144, List.forall_mem_cons.2 ⟨ok146, List.forall_mem_cons.2 ⟨ok147, List.forall_mem_cons.2 ⟨ok150, List.forall_mem_nil _⟩⟩⟩⟩⟩⟩⟩⟩⟩⟩⟩⟩⟩⟩⟩⟩⟩⟩⟩⟩⟩⟩⟩⟩⟩⟩⟩⟩⟩⟩⟩⟩⟩⟩⟩⟩⟩⟩⟩⟩⟩⟩⟩⟩⟩⟩⟩⟩⟩⟩⟩⟩⟩⟩⟩⟩⟩⟩⟩⟩⟩⟩⟩⟩⟩⟩⟩⟩⟩⟩⟩⟩⟩⟩⟩⟩⟩⟩⟩⟩⟩⟩⟩⟩⟩⟩⟩⟩⟩⟩⟩⟩⟩⟩⟩⟩⟩⟩⟩⟩⟩⟩⟩⟩⟩⟩⟩⟩⟩⟩⟩⟩⟩⟩⟩⟩⟩⟩⟩⟩⟩⟩⟩⟩⟩⟩⟩⟩⟩⟩⟩⟩⟩⟩⟩⟩⟩⟩⟩⟩⟩⟩
theorem prA_ok {f : Nat} {af : AF} (h : prA f = some af) : OkAf f af := by
  unfold prA at h
  rw [Option.map_eq_some_iff] at h
  obtain ⟨x, hx, rfl⟩ := h
  have h1 := List.mem_of_find?_eq_some hx
  have h2 := List.find?_some hx
  simp only [beq_iff_eq] at h2
  subst h2
  exact afs_ok x h1
theorem A3 : prA 3 = some af3 := rfl
theorem A4 : prA 4 = some af4 := rfl
theorem A5 : prA 5 = some af5 := rfl
theorem A6 : prA 6 = some af6 := rfl
theorem A7 : prA 7 = some af7 := rfl
theorem A8 : prA 8 = some af8 := rfl
theorem A9 : prA 9 = some af9 := rfl
theorem A10 : prA 10 = some af10 := rfl
theorem A11 : prA 11 = some af11 := rfl
theorem A12 : prA 12 = some af12 := rfl
theorem A13 : prA 13 = some af13 := rfl
theorem A14 : prA 14 = some af14 := rfl
theorem A15 : prA 15 = some af15 := rfl
theorem A16 : prA 16 = some af16 := rfl
theorem A17 : prA 17 = some af17 := rfl
theorem A18 : prA 18 = some af18 := rfl
theorem A19 : prA 19 = some af19 := rfl
theorem A20 : prA 20 = some af20 := rfl
theorem A21 : prA 21 = some af21 := rfl
theorem A22 : prA 22 = some af22 := rfl
theorem A23 : prA 23 = some af23 := rfl
theorem A24 : prA 24 = some af24 := rfl
theorem A25 : prA 25 = some af25 := rfl
theorem A26 : prA 26 = some af26 := rfl
theorem A27 : prA 27 = some af27 := rfl
theorem A28 : prA 28 = some af28 := rfl
theorem A29 : prA 29 = some af29 := rfl
theorem A30 : prA 30 = some af30 := rfl
theorem A31 : prA 31 = some af31 := rfl
theorem A32 : prA 32 = some af32 := rfl
theorem A33 : prA 33 = some af33 := rfl
theorem A34 : prA 34 = some af34 := rfl
theorem A35 : prA 35 = some af35 := rfl
theorem A36 : prA 36 = some af36 := rfl
theorem A37 : prA 37 = some af37 := rfl
theorem A38 : prA 38 = some af38 := rfl
theorem A39 : prA 39 = some af39 := rfl
theorem A40 : prA 40 = some af40 := rfl
theorem A41 : prA 41 = some af41 := rfl
theorem A42 : prA 42 = some af42 := rfl
theorem A43 : prA 43 = some af43 := rfl
theorem A44 : prA 44 = some af44 := rfl
theorem A45 : prA 45 = some af45 := rfl
theorem A46 : prA 46 = some af46 := rfl
theorem A47 : prA 47 = some af47 := rfl
theorem A48 : prA 48 = some af48 := rfl
theorem A49 : prA 49 = some af49 := rfl
theorem A50 : prA 50 = some af50 := rfl
theorem A51 : prA 51 = some af51 := rfl
theorem A52 : prA 52 = some af52 := rfl
theorem A53 : prA 53 = some af53 := rfl
theorem A54 : prA 54 = some af54 := rfl
theorem A55 : prA 55 = some af55 := rfl
theorem A56 : prA 56 = some af56 := rfl
theorem A57 : prA 57 = some af57 := rfl
theorem A58 : prA 58 = some af58 := rfl
theorem A59 : prA 59 = some af59 := rfl
theorem A60 : prA 60 = some af60 := rfl
theorem A61 : prA 61 = some af61 := rfl
theorem A62 : prA 62 = some af62 := rfl
theorem A63 : prA 63 = some af63 := rfl
theorem A64 : prA 64 = some af64 := rfl
theorem A65 : prA 65 = some af65 := rfl
theorem A66 : prA 66 = some af66 := rfl
theorem A67 : prA 67 = some af67 := rfl
theorem A68 : prA 68 = some af68 := rfl
theorem A69 : prA 69 = some af69 := rfl
theorem A70 : prA 70 = some af70 := rfl
theorem A71 : prA 71 = some af71 := rfl
theorem A72 : prA 72 = some af72 := rfl
theorem A73 : prA 73 = some af73 := rfl
theorem A74 : prA 74 = some af74 := rfl
theorem A75 : prA 75 = some af75 := rfl
theorem A76 : prA 76 = some af76 := rfl
theorem A77 : prA 77 = some af77 := rfl
theorem A78 : prA 78 = some af78 := rfl
theorem A79 : prA 79 = some af79 := rfl
theorem A80 : prA 80 = some af80 := rfl
theorem A81 : prA 81 = some af81 := rfl
theorem A82 : prA 82 = some af82 := rfl
theorem A83 : prA 83 = some af83 := rfl
theorem A84 : prA 84 = some af84 := rfl
theorem A85 : prA 85 = some af85 := rfl
theorem A86 : prA 86 = some af86 := rfl
theorem A87 : prA 87 = some af87 := rfl
theorem A88 : prA 88 = some af88 := rfl
theorem A89 : prA 89 = some af89 := rfl
theorem A90 : prA 90 = some af90 := rfl
theorem A91 : prA 91 = some af91 := rfl
theorem A92 : prA 92 = some af92 := rfl
theorem A93 : prA 93 = some af93 := rfl
theorem A94 : prA 94 = some af94 := rfl
theorem A95 : prA 95 = some af95 := rfl
theorem A97 : prA 97 = some af97 := rfl
theorem A98 : prA 98 = some af98 := rfl
theorem A99 : prA 99 = some af99 := rfl
theorem A100 : prA 100 = some af100 := rfl
theorem A101 : prA 101 = some af101 := rfl
theorem A102 : prA 102 = some af102 := rfl
theorem A103 : prA 103 = some af103 := rfl
theorem A104 : prA 104 = some af104 := rfl
theorem A105 : prA 105 = some af105 := rfl
theorem A106 : prA 106 = some af106 := rfl
theorem A107 : prA 107 = some af107 := rfl
theorem A108 : prA 108 = some af108 := rfl
theorem A109 : prA 109 = some af109 := rfl
theorem A110 : prA 110 = some af110 := rfl
theorem A111 : prA 111 = some af111 := rfl
theorem A112 : prA 112 = some af112 := rfl
theorem A113 : prA 113 = some af113 := rfl
theorem A114 : prA 114 = some af114 := rfl
theorem A115 : prA 115 = some af115 := rfl
theorem A116 : prA 116 = some af116 := rfl
theorem A117 : prA 117 = some af117 := rfl
theorem A118 : prA 118 = some af118 := rfl
theorem A119 : prA 119 = some af119 := rfl
theorem A120 : prA 120 = some af120 := rfl
theorem A121 : prA 121 = some af121 := rfl
theorem A122 : prA 122 = some af122 := rfl
theorem A123 : prA 123 = some af123 := rfl
theorem A124 : prA 124 = some af124 := rfl
theorem A125 : prA 125 = some af125 := rfl
theorem A126 : prA 126 = some af126 := rfl
theorem A127 : prA 127 = some af127 := rfl
theorem A128 : prA 128 = some af128 := rfl
theorem A129 : prA 129 = some af129 := rfl
theorem A130 : prA 130 = some af130 := rfl
theorem A131 : prA 131 = some af131 := rfl
theorem A132 : prA 132 = some af132 := rfl
theorem A133 : prA 133 = some af133 := rfl
theorem A134 : prA 134 = some af134 := rfl
theorem A135 : prA 135 = some af135 := rfl
theorem A136 : prA 136 = some af136 := rfl
theorem A137 : prA 137 = some af137 := rfl
theorem A138 : prA 138 = some af138 := rfl
theorem A139 : prA 139 = some af139 := rfl
theorem A140 : prA 140 = some af140 := rfl
theorem A141 : prA 141 = some af141 := rfl
theorem A144 : prA 144 = some af144 := rfl
theorem A146 : prA 146 = some af146 := rfl
theorem A147 : prA 147 = some af147 := rfl
theorem A150 : prA 150 = some af150 := rfl
end Go.Proofs.Ytopiaiibpacmlaa.Av
