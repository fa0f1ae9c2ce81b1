/- The tables of this seat: types, functions, and what the machine is told ahead of each operation. Written by a program of this claim. -/
import Derived.Test.YtmnefpfbgadnkaaTab
import Derived.Test.YtmnefpfbgadnkaaProg
import Derived.KernelRfl
namespace Go.Proofs.Ytmnefpfbgadnkaa.AI
open Go
set_option linter.unusedVariables false
set_option maxRecDepth 100000

noncomputable def tyT : Tr TI := (.node 25 ⟨.sc, 1, 2, [.int .u16 0]⟩ (.node 5 ⟨.sc, 1, 1, [.int .u8 0]⟩ (.node 3 ⟨.sc, 1, 8, [.int .i64 0]⟩ (.node 0 ⟨.tu, 0, 0, []⟩ .leaf .leaf) (.node 4 ⟨.sc, 1, 1, [.bool false]⟩ .leaf .leaf)) (.node 23 ⟨(.st [(0, 3), (1, 3), (2, 22)]), 3, 40, [.int .i64 0, .int .i64 0, .slice none 0 0]⟩ (.node 22 ⟨(.sl 29), 1, 24, [.slice none 0 0]⟩ .leaf .leaf) (.node 24 ⟨(.st [(0, 3), (1, 3), (2, 22)]), 3, 40, [.int .i64 0, .int .i64 0, .slice none 0 0]⟩ .leaf .leaf))) (.node 30 ⟨(.sl 24), 1, 24, [.slice none 0 0]⟩ (.node 27 ⟨.sc, 1, 8, [.int .u64 0]⟩ (.node 26 ⟨(.sl 25), 1, 24, [.slice none 0 0]⟩ .leaf .leaf) (.node 29 ⟨.sc, 1, 4, [.int .u32 0]⟩ .leaf .leaf)) (.node 37 ⟨(.sl 27), 1, 24, [.slice none 0 0]⟩ (.node 31 ⟨.sc, 1, 8, [.int .i64 0]⟩ .leaf .leaf) (.node 41 ⟨.ot, 1, 8, [.map none]⟩ .leaf .leaf))))
noncomputable def fnT : Tr Func := (.node 16 Try.f16 (.node 6 Try.f6 (.node 4 Try.f4 (.node 3 Try.f3 .leaf .leaf) (.node 5 Try.f5 .leaf .leaf)) (.node 14 Try.f14 (.node 7 Try.f7 .leaf .leaf) (.node 15 Try.f15 .leaf .leaf))) (.node 20 Try.f20 (.node 18 Try.f18 (.node 17 Try.f17 .leaf .leaf) (.node 19 Try.f19 .leaf .leaf)) (.node 22 Try.f22 (.node 21 Try.f21 .leaf .leaf) (.node 32 Try.f32 .leaf .leaf))))
def hlT : Tr (List (Nat × Nat × Nat)) := (.node 19 [(7, 0, 1)] (.node 7 [(9, 1, 1)] (.node 6 [(10, 0, 1)] (.node 3 [(9, 1, 1)] .leaf .leaf) .leaf) (.node 16 [(3, 0, 1), (7, 0, 1), (10, 0, 1)] .leaf .leaf)) (.node 21 [(7, 0, 1), (10, 0, 1)] (.node 20 [(4, 1, 1), (6, 1, 1), (8, 1, 1), (9, 0, 1)] .leaf .leaf) (.node 22 [(7, 0, 1)] .leaf .leaf)))
def mlT : Tr (List (Nat × List Nat)) := (.node 17 [(3, [2, 5, 11, 12, 13])] (.node 6 [(8, [0, 1, 2, 3, 4, 11, 12, 13])] (.node 4 [(4, []), (5, [0, 1, 2, 3])] (.node 3 [(4, []), (5, [1, 2, 3, 4, 5]), (7, [4, 5, 11, 40, 41, 42]), (12, [4, 11, 57, 58, 59]), (16, [4, 11, 15, 57, 58, 59]), (17, [4, 11, 15, 16, 57, 58, 59]), (18, [4, 11, 15, 16, 57, 58, 59, 82, 83, 84]), (24, [4, 11, 15, 57, 58, 59, 82, 83, 84]), (25, [4, 11, 15, 16, 57, 58, 59, 82, 83, 84]), (27, []), (28, [4, 11, 57, 58, 59])] .leaf .leaf) (.node 5 [(8, [3, 9, 10, 31, 32, 33]), (13, [3, 9, 10, 31, 32, 33, 46, 47, 48]), (21, [3, 9, 10, 15, 16, 64, 65, 66]), (24, []), (25, [3, 9, 10, 15, 16, 18, 64, 65, 66]), (26, [3, 9, 10, 15, 16, 64, 65, 66]), (28, [3, 9, 10, 15, 16, 91, 92, 93])] .leaf .leaf)) (.node 15 [(2, []), (3, [1]), (4, [1, 24, 25, 26]), (9, []), (10, [1, 24, 25, 26])] (.node 7 [(7, [2, 7, 8, 21, 22]), (12, [2, 7, 8, 34, 35, 36])] .leaf .leaf) (.node 16 [(6, [2, 5, 6, 7, 19, 20])] .leaf .leaf))) (.node 21 [(5, [0, 1, 7, 8, 9]), (6, [0, 7, 8, 9, 19, 20])] (.node 19 [(3, [6, 7, 19, 20, 21])] (.node 18 [(2, []), (3, [2, 3]), (4, [2, 3, 29, 30])] .leaf .leaf) (.node 20 [(3, [4, 5, 6, 7]), (4, [4, 5, 6, 7]), (6, [4, 5, 6, 7]), (7, [4, 5, 6, 7]), (8, [4, 5, 6, 7])] .leaf .leaf)) (.node 32 [(2, [1, 7, 8, 9])] (.node 22 [(3, [2, 4, 5, 11, 12, 13])] .leaf .leaf) .leaf)))
noncomputable def cxX : Cx := mkCx Try.prog tyT fnT hlT mlT
theorem fnp3 : FnP Try.prog 3 Try.f3 := ⟨by kernel_rfl, by kernel_rfl⟩
theorem fnp4 : FnP Try.prog 4 Try.f4 := ⟨by kernel_rfl, by kernel_rfl⟩
theorem fnp5 : FnP Try.prog 5 Try.f5 := ⟨by kernel_rfl, by kernel_rfl⟩
theorem fnp6 : FnP Try.prog 6 Try.f6 := ⟨by kernel_rfl, by kernel_rfl⟩
theorem fnp7 : FnP Try.prog 7 Try.f7 := ⟨by kernel_rfl, by kernel_rfl⟩
theorem fnp14 : FnP Try.prog 14 Try.f14 := ⟨by kernel_rfl, by kernel_rfl⟩
theorem fnp15 : FnP Try.prog 15 Try.f15 := ⟨by kernel_rfl, by kernel_rfl⟩
theorem fnp16 : FnP Try.prog 16 Try.f16 := ⟨by kernel_rfl, by kernel_rfl⟩
theorem fnp17 : FnP Try.prog 17 Try.f17 := ⟨by kernel_rfl, by kernel_rfl⟩
theorem fnp18 : FnP Try.prog 18 Try.f18 := ⟨by kernel_rfl, by kernel_rfl⟩
theorem fnp19 : FnP Try.prog 19 Try.f19 := ⟨by kernel_rfl, by kernel_rfl⟩
theorem fnp20 : FnP Try.prog 20 Try.f20 := ⟨by kernel_rfl, by kernel_rfl⟩
theorem fnp21 : FnP Try.prog 21 Try.f21 := ⟨by kernel_rfl, by kernel_rfl⟩
theorem fnp22 : FnP Try.prog 22 Try.f22 := ⟨by kernel_rfl, by kernel_rfl⟩
theorem fnp32 : FnP Try.prog 32 Try.f32 := ⟨by kernel_rfl, by kernel_rfl⟩
theorem okX : Ok cxX ∧ DstOk cxX := mkOk (by kernel_rfl) ⟨fnp16, ⟨fnp6, ⟨fnp4, ⟨fnp3, trivial, trivial⟩, ⟨fnp5, trivial, trivial⟩⟩, ⟨fnp14, ⟨fnp7, trivial, trivial⟩, ⟨fnp15, trivial, trivial⟩⟩⟩, ⟨fnp20, ⟨fnp18, ⟨fnp17, trivial, trivial⟩, ⟨fnp19, trivial, trivial⟩⟩, ⟨fnp22, ⟨fnp21, trivial, trivial⟩, ⟨fnp32, trivial, trivial⟩⟩⟩⟩ (by kernel_rfl)
noncomputable def cd3 : Code := (Try.f3.body).getD .skip
def ss3 : List Nat := [4, 5, 7, 12, 16, 17, 18, 24, 25, 27, 28]
noncomputable def cd4 : Code := (Try.f4.body).getD .skip
def ss4 : List Nat := [4, 5]
noncomputable def cd5 : Code := (Try.f5.body).getD .skip
def ss5 : List Nat := [8, 13, 21, 24, 25, 26, 28]
noncomputable def cd6 : Code := (Try.f6.body).getD .skip
def ss6 : List Nat := [8]
noncomputable def cd7 : Code := (Try.f7.body).getD .skip
def ss7 : List Nat := [7, 12]
noncomputable def cd14 : Code := (Try.f14.body).getD .skip
def ss14 : List Nat := []
noncomputable def cd15 : Code := (Try.f15.body).getD .skip
def ss15 : List Nat := [2, 3, 4, 9, 10]
noncomputable def cd16 : Code := (Try.f16.body).getD .skip
def ss16 : List Nat := [6]
noncomputable def cd17 : Code := (Try.f17.body).getD .skip
def ss17 : List Nat := [3]
noncomputable def cd18 : Code := (Try.f18.body).getD .skip
def ss18 : List Nat := [2, 3, 4]
noncomputable def cd19 : Code := (Try.f19.body).getD .skip
def ss19 : List Nat := [3]
noncomputable def cd20 : Code := (Try.f20.body).getD .skip
def ss20 : List Nat := [3, 4, 6, 7, 8]
noncomputable def cd21 : Code := (Try.f21.body).getD .skip
def ss21 : List Nat := [5, 6]
noncomputable def cd22 : Code := (Try.f22.body).getD .skip
def ss22 : List Nat := [3]
noncomputable def cd32 : Code := (Try.f32.body).getD .skip
def ss32 : List Nat := [2]
end Go.Proofs.Ytmnefpfbgadnkaa.AI
