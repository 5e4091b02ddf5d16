/- The law RewriteKnown: what its parts answer at what it hands them, by the walk as a function, run by the kernel. No condition. -/
import Derived.Test.YtdajiliomefobaaDoorRKA
namespace Go.Proofs.YtdajiliomefobaaDoor
open Go.AS
namespace RewriteKnown
noncomputable section

def ask0 : List Value × Value := ([.string ⟨#[33, 33, 97]⟩], .string ⟨#[97]⟩)
theorem run0 : firstR (S X 100 15 (ask0.1.map .lit) 1 .nil []) = some (.lit ask0.2) := by kernel_rfl
def ask1 : List Value × Value := ([.string ⟨#[97, 110, 99, 101, 115, 116, 111, 114, 115, 40, 58, 58, 97, 41]⟩], .string ⟨#[58, 58, 97]⟩)
theorem run1 : firstR (S X 100 15 (ask1.1.map .lit) 1 .nil []) = some (.lit ask1.2) := by kernel_rfl
def ask2 : List Value × Value := ([.string ⟨#[97, 110, 99, 101, 115, 116, 111, 114, 115, 40, 97, 43, 98, 41]⟩], .string ⟨#[58, 58, 40, 97, 43, 98, 41]⟩)
theorem run2 : firstR (S X 100 15 (ask2.1.map .lit) 1 .nil []) = some (.lit ask2.2) := by kernel_rfl
def ask3 : List Value × Value := ([.string ⟨#[100, 101, 115, 99, 101, 110, 100, 97, 110, 116, 115, 40, 100, 101, 115, 99, 101, 110, 100, 97, 110, 116, 115, 40, 97, 41, 41]⟩], .string ⟨#[97, 58, 58]⟩)
theorem run3 : firstR (S X 100 15 (ask3.1.map .lit) 1 .nil []) = some (.lit ask3.2) := by kernel_rfl
def ask4 : List Value × Value := ([.string ⟨#[97, 38, 97]⟩], .string ⟨#[97]⟩)
theorem run4 : firstR (S X 100 15 (ask4.1.map .lit) 1 .nil []) = some (.lit ask4.2) := by kernel_rfl
def ask5 : List Value × Value := ([.string ⟨#[97, 43, 98, 43, 110, 111, 110, 101, 40, 41]⟩], .string ⟨#[97, 43, 98]⟩)
theorem run5 : firstR (S X 100 15 (ask5.1.map .lit) 1 .nil []) = some (.lit ask5.2) := by kernel_rfl
def ask6 : List Value × Value := ([.string ⟨#[110, 111, 110, 101, 40, 41, 38, 97]⟩], .string ⟨#[110, 111, 110, 101, 40, 41, 38, 97]⟩)
theorem run6 : firstR (S X 100 15 (ask6.1.map .lit) 1 .nil []) = some (.lit ask6.2) := by kernel_rfl
def ask7 : List Value × Value := ([.string ⟨#[110, 111, 110, 101, 40, 41, 38, 97, 108, 108, 40, 41]⟩], .string ⟨#[110, 111, 110, 101, 40, 41]⟩)
theorem run7 : firstR (S X 100 15 (ask7.1.map .lit) 1 .nil []) = some (.lit ask7.2) := by kernel_rfl
def ask8 : List Value × Value := ([.string ⟨#[110, 111, 110, 101, 40, 41, 45, 109, 97, 115, 116, 101, 114, 40, 41]⟩], .string ⟨#[110, 111, 110, 101, 40, 41]⟩)
theorem run8 : firstR (S X 100 15 (ask8.1.map .lit) 1 .nil []) = some (.lit ask8.2) := by kernel_rfl
def ask9 : List Value × Value := ([.string ⟨#[97, 45, 110, 111, 110, 101, 40, 41]⟩], .string ⟨#[97]⟩)
theorem run9 : firstR (S X 100 15 (ask9.1.map .lit) 1 .nil []) = some (.lit ask9.2) := by kernel_rfl
def ask10 : List Value × Value := ([.string ⟨#[102, 105, 114, 115, 116, 40, 110, 111, 110, 101, 40, 41, 44, 51, 41]⟩], .string ⟨#[110, 111, 110, 101, 40, 41]⟩)
theorem run10 : firstR (S X 100 15 (ask10.1.map .lit) 1 .nil []) = some (.lit ask10.2) := by kernel_rfl
def ask11 : List Value × Value := ([.string ⟨#[104, 101, 97, 100, 115, 40, 104, 101, 97, 100, 115, 40, 97, 41, 41]⟩], .string ⟨#[104, 101, 97, 100, 115, 40, 97, 41]⟩)
theorem run11 : firstR (S X 100 15 (ask11.1.map .lit) 1 .nil []) = some (.lit ask11.2) := by kernel_rfl
def ask12 : List Value × Value := ([.string ⟨#[104, 101, 97, 100, 115, 40, 114, 111, 111, 116, 115, 40, 97, 41, 41]⟩], .string ⟨#[104, 101, 97, 100, 115, 40, 114, 111, 111, 116, 115, 40, 97, 41, 41]⟩)
theorem run12 : firstR (S X 100 15 (ask12.1.map .lit) 1 .nil []) = some (.lit ask12.2) := by kernel_rfl
def ask13 : List Value × Value := ([.string ⟨#[33, 33, 33, 97]⟩], .string ⟨#[33, 97]⟩)
theorem run13 : firstR (S X 100 15 (ask13.1.map .lit) 1 .nil []) = some (.lit ask13.2) := by kernel_rfl
def ask14 : List Value × Value := ([.string ⟨#[97, 58, 58, 98]⟩], .string ⟨#[97, 58, 58, 98]⟩)
theorem run14 : firstR (S X 100 15 (ask14.1.map .lit) 1 .nil []) = some (.lit ask14.2) := by kernel_rfl
def ask15 : List Value × Value := ([.string ⟨#[110, 111, 110, 101, 40, 41, 43, 97]⟩], .string ⟨#[97]⟩)
theorem run15 : firstR (S X 100 15 (ask15.1.map .lit) 1 .nil []) = some (.lit ask15.2) := by kernel_rfl
end
end RewriteKnown
end Go.Proofs.YtdajiliomefobaaDoor
