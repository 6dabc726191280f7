/- The functions of this seat, and that they are those of the program. -/
import Derived.Test.YtfpaegklkdfmmaaAf0
namespace Go.Proofs.Ytfpaegklkdfmmaa.Av
def afs : List (Nat × AF) := [(3, af3), (4, af4), (5, af5), (6, af6), (7, af7), (8, af8), (9, af9), (10, af10), (11, af11), (12, af12), (13, af13), (14, af14), (15, af15), (16, af16), (17, af17), (18, af18), (19, af19), (20, af20), (21, af21), (22, af22), (23, af23), (24, af24), (25, af25), (26, af26), (27, af27), (28, af28), (29, af29), (30, af30), (31, af31), (32, af32), (33, af33), (34, af34), (35, af35), (36, af36), (37, af37), (38, af38), (39, af39), (40, af40), (41, af41), (42, af42), (44, af44), (47, af47), (48, af48), (49, af49)]
def prA (f : Nat) : Option AF := (afs.find? fun x => x.1 == f).map (·.2)
theorem afs_ok : ∀ x ∈ afs, OkAf x.1 x.2 := by
  unfold afs
  exact List.forall_mem_cons.2 ⟨ok3, List.forall_mem_cons.2 ⟨ok4, List.forall_mem_cons.2 ⟨ok5, List.forall_mem_cons.2 ⟨ok6, List.forall_mem_cons.2 ⟨ok7, List.forall_mem_cons.2 ⟨ok8, List.forall_mem_cons.2 ⟨ok9, List.forall_mem_cons.2 ⟨ok10, List.forall_mem_cons.2 ⟨ok11, List.forall_mem_cons.2 ⟨ok12, List.forall_mem_cons.2 ⟨ok13, List.forall_mem_cons.2 ⟨ok14, List.forall_mem_cons.2 ⟨ok15, List.forall_mem_cons.2 ⟨ok16, List.forall_mem_cons.2 ⟨ok17, List.forall_mem_cons.2 ⟨ok18, List.forall_mem_cons.2 ⟨ok19, List.forall_mem_cons.2 ⟨ok20, List.forall_mem_cons.2 ⟨ok21, List.forall_mem_cons.2 ⟨ok22, List.forall_mem_cons.2 ⟨ok23, List.forall_mem_cons.2 ⟨ok24, List.forall_mem_cons.2 ⟨ok25, List.forall_mem_cons.2 ⟨ok26, List.forall_mem_cons.2 ⟨ok27, List.forall_mem_cons.2 ⟨ok28, List.forall_mem_cons.2 ⟨ok29, List.forall_mem_cons.2 ⟨ok30, List.forall_mem_cons.2 ⟨ok31, List.forall_mem_cons.2 ⟨ok32, List.forall_mem_cons.2 ⟨ok33, List.forall_mem_cons.2 ⟨ok34, List.forall_mem_cons.2 ⟨ok35, List.forall_mem_cons.2 ⟨ok36, List.forall_mem_cons.2 ⟨ok37, List.forall_mem_cons.2 ⟨ok38, List.forall_mem_cons.2 ⟨ok39, List.forall_mem_cons.2 ⟨ok40, List.forall_mem_cons.2 ⟨ok41, List.forall_mem_cons.2 ⟨ok42, List.forall_mem_cons.2 ⟨ok44, List.forall_mem_cons.2 ⟨ok47, List.forall_mem_cons.2 ⟨ok48, List.forall_mem_cons.2 ⟨ok49, List.forall_mem_nil _⟩⟩⟩⟩⟩⟩⟩⟩⟩⟩⟩⟩⟩⟩⟩⟩⟩⟩⟩⟩⟩⟩⟩⟩⟩⟩⟩⟩⟩⟩⟩⟩⟩⟩⟩⟩⟩⟩⟩⟩⟩⟩⟩⟩
theorem prA_ok {f : Nat} {af : AF} (h : prA f = some af) : OkAf f af := by
  unfold prA at h
  rw [Option.map_eq_some_iff] at h
  obtain ⟨x, hx, rfl⟩ := h
  have h1 := List.mem_of_find?_eq_some hx
  have h2 := List.find?_some hx
  simp only [beq_iff_eq] at h2
  subst h2
  exact afs_ok x h1
theorem A3 : prA 3 = some af3 := rfl
theorem A4 : prA 4 = some af4 := rfl
theorem A5 : prA 5 = some af5 := rfl
theorem A6 : prA 6 = some af6 := rfl
theorem A7 : prA 7 = some af7 := rfl
theorem A8 : prA 8 = some af8 := rfl
theorem A9 : prA 9 = some af9 := rfl
theorem A10 : prA 10 = some af10 := rfl
theorem A11 : prA 11 = some af11 := rfl
theorem A12 : prA 12 = some af12 := rfl
theorem A13 : prA 13 = some af13 := rfl
theorem A14 : prA 14 = some af14 := rfl
theorem A15 : prA 15 = some af15 := rfl
theorem A16 : prA 16 = some af16 := rfl
theorem A17 : prA 17 = some af17 := rfl
theorem A18 : prA 18 = some af18 := rfl
theorem A19 : prA 19 = some af19 := rfl
theorem A20 : prA 20 = some af20 := rfl
theorem A21 : prA 21 = some af21 := rfl
theorem A22 : prA 22 = some af22 := rfl
theorem A23 : prA 23 = some af23 := rfl
theorem A24 : prA 24 = some af24 := rfl
theorem A25 : prA 25 = some af25 := rfl
theorem A26 : prA 26 = some af26 := rfl
theorem A27 : prA 27 = some af27 := rfl
theorem A28 : prA 28 = some af28 := rfl
theorem A29 : prA 29 = some af29 := rfl
theorem A30 : prA 30 = some af30 := rfl
theorem A31 : prA 31 = some af31 := rfl
theorem A32 : prA 32 = some af32 := rfl
theorem A33 : prA 33 = some af33 := rfl
theorem A34 : prA 34 = some af34 := rfl
theorem A35 : prA 35 = some af35 := rfl
theorem A36 : prA 36 = some af36 := rfl
theorem A37 : prA 37 = some af37 := rfl
theorem A38 : prA 38 = some af38 := rfl
theorem A39 : prA 39 = some af39 := rfl
theorem A40 : prA 40 = some af40 := rfl
theorem A41 : prA 41 = some af41 := rfl
theorem A42 : prA 42 = some af42 := rfl
theorem A44 : prA 44 = some af44 := rfl
theorem A47 : prA 47 = some af47 := rfl
theorem A48 : prA 48 = some af48 := rfl
theorem A49 : prA 49 = some af49 := rfl
end Go.Proofs.Ytfpaegklkdfmmaa.Av
