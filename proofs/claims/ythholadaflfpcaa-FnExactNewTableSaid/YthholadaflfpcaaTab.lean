/-
  The table of the types that this seat's functions use. Printed by gentab.py, a program of this work.
-/
import Derived.Test.YthholadaflfpcaaFwL
import Derived.Test.YthholadaflfpcaaProg
import Derived.KernelRfl
namespace Go.Proofs.Ythholadaflfpcaa
open Go Go.Fw
def ti2 : TI := ⟨.int .i64, .int .i64 0, 1, false, 8, []⟩
theorem ty2 : ∃ d, TY Try.prog 2 d (.int .i64 0) 1 8 ∧ kindOf d = .int .i64 ∧ aggD d = false := ⟨_, ⟨Try.underlying2, by kernel_rfl⟩, rfl, rfl⟩
theorem tk2 : TIok Try.prog 2 ti2 := ⟨ty2, by kernel_rfl, .inl rfl⟩
def ti3 : TI := ⟨.int .i64, .int .i64 0, 1, false, 8, []⟩
theorem ty3 : ∃ d, TY Try.prog 3 d (.int .i64 0) 1 8 ∧ kindOf d = .int .i64 ∧ aggD d = false := ⟨_, ⟨Try.underlying3, by kernel_rfl⟩, rfl, rfl⟩
theorem tk3 : TIok Try.prog 3 ti3 := ⟨ty3, by kernel_rfl, .inl rfl⟩
def ti4 : TI := ⟨.bool, .bool false, 1, false, 1, []⟩
theorem ty4 : ∃ d, TY Try.prog 4 d (.bool false) 1 1 ∧ kindOf d = .bool ∧ aggD d = false := ⟨_, ⟨Try.underlying4, by kernel_rfl⟩, rfl, rfl⟩
theorem tk4 : TIok Try.prog 4 ti4 := ⟨ty4, by kernel_rfl, .inl rfl⟩
def ti5 : TI := ⟨.int .u8, .int .u8 0, 1, false, 1, []⟩
theorem ty5 : ∃ d, TY Try.prog 5 d (.int .u8 0) 1 1 ∧ kindOf d = .int .u8 ∧ aggD d = false := ⟨_, ⟨Try.underlying5, by kernel_rfl⟩, rfl, rfl⟩
theorem tk5 : TIok Try.prog 5 ti5 := ⟨ty5, by kernel_rfl, .inl rfl⟩
def ti6 : TI := ⟨.int .u8, .int .u8 0, 1, false, 1, []⟩
theorem ty6 : ∃ d, TY Try.prog 6 d (.int .u8 0) 1 1 ∧ kindOf d = .int .u8 ∧ aggD d = false := ⟨_, ⟨Try.underlying6, by kernel_rfl⟩, rfl, rfl⟩
theorem tk6 : TIok Try.prog 6 ti6 := ⟨ty6, by kernel_rfl, .inl rfl⟩
def ti7 : TI := ⟨.struct, .agg #[.int .i64 0, .int .i64 0, .bool false, .int .u8 0], 4, true, 24, [(0, 1), (1, 1), (2, 1), (3, 1)]⟩
theorem ty7 : ∃ d, TY Try.prog 7 d (.agg #[.int .i64 0, .int .i64 0, .bool false, .int .u8 0]) 4 24 ∧ kindOf d = .struct ∧ aggD d = true := ⟨_, ⟨Try.underlying7, by kernel_rfl⟩, rfl, rfl⟩
theorem tk7 : TIok Try.prog 7 ti7 := ⟨ty7, by kernel_rfl, .inr ⟨_, Try.underlying7, by kernel_rfl⟩⟩
def ti8 : TI := ⟨.struct, .agg #[.int .i64 0, .int .i64 0, .bool false, .int .u8 0], 4, true, 24, [(0, 1), (1, 1), (2, 1), (3, 1)]⟩
theorem ty8 : ∃ d, TY Try.prog 8 d (.agg #[.int .i64 0, .int .i64 0, .bool false, .int .u8 0]) 4 24 ∧ kindOf d = .struct ∧ aggD d = true := ⟨_, ⟨Try.underlying8, by kernel_rfl⟩, rfl, rfl⟩
theorem tk8 : TIok Try.prog 8 ti8 := ⟨ty8, by kernel_rfl, .inr ⟨_, Try.underlying8, by kernel_rfl⟩⟩
def ti9 : TI := ⟨.str, .string ⟨#[]⟩, 1, false, 16, []⟩
theorem ty9 : ∃ d, TY Try.prog 9 d (.string ⟨#[]⟩) 1 16 ∧ kindOf d = .str ∧ aggD d = false := ⟨_, ⟨Try.underlying9, by kernel_rfl⟩, rfl, rfl⟩
theorem tk9 : TIok Try.prog 9 ti9 := ⟨ty9, by kernel_rfl, .inl rfl⟩
def ti10 : TI := ⟨.str, .string ⟨#[]⟩, 1, false, 16, []⟩
theorem ty10 : ∃ d, TY Try.prog 10 d (.string ⟨#[]⟩) 1 16 ∧ kindOf d = .str ∧ aggD d = false := ⟨_, ⟨Try.underlying10, by kernel_rfl⟩, rfl, rfl⟩
theorem tk10 : TIok Try.prog 10 ti10 := ⟨ty10, by kernel_rfl, .inl rfl⟩
def ti11 : TI := ⟨.str, .string ⟨#[]⟩, 1, false, 16, []⟩
theorem ty11 : ∃ d, TY Try.prog 11 d (.string ⟨#[]⟩) 1 16 ∧ kindOf d = .str ∧ aggD d = false := ⟨_, ⟨Try.underlying11, by kernel_rfl⟩, rfl, rfl⟩
theorem tk11 : TIok Try.prog 11 ti11 := ⟨ty11, by kernel_rfl, .inl rfl⟩
def ti12 : TI := ⟨.int .u64, .int .u64 0, 1, false, 8, []⟩
theorem ty12 : ∃ d, TY Try.prog 12 d (.int .u64 0) 1 8 ∧ kindOf d = .int .u64 ∧ aggD d = false := ⟨_, ⟨Try.underlying12, by kernel_rfl⟩, rfl, rfl⟩
theorem tk12 : TIok Try.prog 12 ti12 := ⟨ty12, by kernel_rfl, .inl rfl⟩
def ti15 : TI := ⟨.other, .pointer none, 1, false, 8, []⟩
theorem ty15 : ∃ d, TY Try.prog 15 d (.pointer none) 1 8 ∧ kindOf d = .other ∧ aggD d = false := ⟨_, ⟨Try.underlying15, by kernel_rfl⟩, rfl, rfl⟩
theorem tk15 : TIok Try.prog 15 ti15 := ⟨ty15, by kernel_rfl, .inl rfl⟩
def ti16 : TI := ⟨.other, .pointer none, 1, false, 8, []⟩
theorem ty16 : ∃ d, TY Try.prog 16 d (.pointer none) 1 8 ∧ kindOf d = .other ∧ aggD d = false := ⟨_, ⟨Try.underlying16, by kernel_rfl⟩, rfl, rfl⟩
theorem tk16 : TIok Try.prog 16 ti16 := ⟨ty16, by kernel_rfl, .inl rfl⟩
def ti17 : TI := ⟨.other, .pointer none, 1, false, 8, []⟩
theorem ty17 : ∃ d, TY Try.prog 17 d (.pointer none) 1 8 ∧ kindOf d = .other ∧ aggD d = false := ⟨_, ⟨Try.underlying17, by kernel_rfl⟩, rfl, rfl⟩
theorem tk17 : TIok Try.prog 17 ti17 := ⟨ty17, by kernel_rfl, .inl rfl⟩
def ti21 : TI := ⟨.int .i32, .int .i32 0, 1, false, 4, []⟩
theorem ty21 : ∃ d, TY Try.prog 21 d (.int .i32 0) 1 4 ∧ kindOf d = .int .i32 ∧ aggD d = false := ⟨_, ⟨Try.underlying21, by kernel_rfl⟩, rfl, rfl⟩
theorem tk21 : TIok Try.prog 21 ti21 := ⟨ty21, by kernel_rfl, .inl rfl⟩
def ti22 : TI := ⟨.slice 68, .slice none 0 0, 1, false, 24, []⟩
theorem ty22 : ∃ d, TY Try.prog 22 d (.slice none 0 0) 1 24 ∧ kindOf d = .slice 68 ∧ aggD d = false := ⟨_, ⟨Try.underlying22, by kernel_rfl⟩, rfl, rfl⟩
theorem tk22 : TIok Try.prog 22 ti22 := ⟨ty22, by kernel_rfl, .inl rfl⟩
def ti23 : TI := ⟨.other, .nilFunc, 1, false, 8, []⟩
theorem ty23 : ∃ d, TY Try.prog 23 d (.nilFunc) 1 8 ∧ kindOf d = .other ∧ aggD d = false := ⟨_, ⟨Try.underlying23, by kernel_rfl⟩, rfl, rfl⟩
theorem tk23 : TIok Try.prog 23 ti23 := ⟨ty23, by kernel_rfl, .inl rfl⟩
def ti24 : TI := ⟨.slice 72, .slice none 0 0, 1, false, 24, []⟩
theorem ty24 : ∃ d, TY Try.prog 24 d (.slice none 0 0) 1 24 ∧ kindOf d = .slice 72 ∧ aggD d = false := ⟨_, ⟨Try.underlying24, by kernel_rfl⟩, rfl, rfl⟩
theorem tk24 : TIok Try.prog 24 ti24 := ⟨ty24, by kernel_rfl, .inl rfl⟩
def ti25 : TI := ⟨.struct, .agg #[.int .i64 0, .slice none 0 0], 2, true, 32, [(0, 1), (1, 1)]⟩
theorem ty25 : ∃ d, TY Try.prog 25 d (.agg #[.int .i64 0, .slice none 0 0]) 2 32 ∧ kindOf d = .struct ∧ aggD d = true := ⟨_, ⟨Try.underlying25, by kernel_rfl⟩, rfl, rfl⟩
theorem tk25 : TIok Try.prog 25 ti25 := ⟨ty25, by kernel_rfl, .inr ⟨_, Try.underlying25, by kernel_rfl⟩⟩
def ti26 : TI := ⟨.struct, .agg #[.int .i64 0, .slice none 0 0], 2, true, 32, [(0, 1), (1, 1)]⟩
theorem ty26 : ∃ d, TY Try.prog 26 d (.agg #[.int .i64 0, .slice none 0 0]) 2 32 ∧ kindOf d = .struct ∧ aggD d = true := ⟨_, ⟨Try.underlying26, by kernel_rfl⟩, rfl, rfl⟩
theorem tk26 : TIok Try.prog 26 ti26 := ⟨ty26, by kernel_rfl, .inr ⟨_, Try.underlying26, by kernel_rfl⟩⟩
def ti28 : TI := ⟨.other, .nilFunc, 1, false, 8, []⟩
theorem ty28 : ∃ d, TY Try.prog 28 d (.nilFunc) 1 8 ∧ kindOf d = .other ∧ aggD d = false := ⟨_, ⟨Try.underlying28, by kernel_rfl⟩, rfl, rfl⟩
theorem tk28 : TIok Try.prog 28 ti28 := ⟨ty28, by kernel_rfl, .inl rfl⟩
def ti29 : TI := ⟨.other, .nilFunc, 1, false, 8, []⟩
theorem ty29 : ∃ d, TY Try.prog 29 d (.nilFunc) 1 8 ∧ kindOf d = .other ∧ aggD d = false := ⟨_, ⟨Try.underlying29, by kernel_rfl⟩, rfl, rfl⟩
theorem tk29 : TIok Try.prog 29 ti29 := ⟨ty29, by kernel_rfl, .inl rfl⟩
def ti30 : TI := ⟨.other, .nilFunc, 1, false, 8, []⟩
theorem ty30 : ∃ d, TY Try.prog 30 d (.nilFunc) 1 8 ∧ kindOf d = .other ∧ aggD d = false := ⟨_, ⟨Try.underlying30, by kernel_rfl⟩, rfl, rfl⟩
theorem tk30 : TIok Try.prog 30 ti30 := ⟨ty30, by kernel_rfl, .inl rfl⟩
def ti31 : TI := ⟨.other, .nilFunc, 1, false, 8, []⟩
theorem ty31 : ∃ d, TY Try.prog 31 d (.nilFunc) 1 8 ∧ kindOf d = .other ∧ aggD d = false := ⟨_, ⟨Try.underlying31, by kernel_rfl⟩, rfl, rfl⟩
theorem tk31 : TIok Try.prog 31 ti31 := ⟨ty31, by kernel_rfl, .inl rfl⟩
def ti32 : TI := ⟨.other, .nilFunc, 1, false, 8, []⟩
theorem ty32 : ∃ d, TY Try.prog 32 d (.nilFunc) 1 8 ∧ kindOf d = .other ∧ aggD d = false := ⟨_, ⟨Try.underlying32, by kernel_rfl⟩, rfl, rfl⟩
theorem tk32 : TIok Try.prog 32 ti32 := ⟨ty32, by kernel_rfl, .inl rfl⟩
def ti33 : TI := ⟨.other, .nilFunc, 1, false, 8, []⟩
theorem ty33 : ∃ d, TY Try.prog 33 d (.nilFunc) 1 8 ∧ kindOf d = .other ∧ aggD d = false := ⟨_, ⟨Try.underlying33, by kernel_rfl⟩, rfl, rfl⟩
theorem tk33 : TIok Try.prog 33 ti33 := ⟨ty33, by kernel_rfl, .inl rfl⟩
def ti34 : TI := ⟨.other, .nilFunc, 1, false, 8, []⟩
theorem ty34 : ∃ d, TY Try.prog 34 d (.nilFunc) 1 8 ∧ kindOf d = .other ∧ aggD d = false := ⟨_, ⟨Try.underlying34, by kernel_rfl⟩, rfl, rfl⟩
theorem tk34 : TIok Try.prog 34 ti34 := ⟨ty34, by kernel_rfl, .inl rfl⟩
def ti35 : TI := ⟨.slice 86, .slice none 0 0, 1, false, 24, []⟩
theorem ty35 : ∃ d, TY Try.prog 35 d (.slice none 0 0) 1 24 ∧ kindOf d = .slice 86 ∧ aggD d = false := ⟨_, ⟨Try.underlying35, by kernel_rfl⟩, rfl, rfl⟩
theorem tk35 : TIok Try.prog 35 ti35 := ⟨ty35, by kernel_rfl, .inl rfl⟩
def ti36 : TI := ⟨.other, .nilFunc, 1, false, 8, []⟩
theorem ty36 : ∃ d, TY Try.prog 36 d (.nilFunc) 1 8 ∧ kindOf d = .other ∧ aggD d = false := ⟨_, ⟨Try.underlying36, by kernel_rfl⟩, rfl, rfl⟩
theorem tk36 : TIok Try.prog 36 ti36 := ⟨ty36, by kernel_rfl, .inl rfl⟩
def ti37 : TI := ⟨.slice 89, .slice none 0 0, 1, false, 24, []⟩
theorem ty37 : ∃ d, TY Try.prog 37 d (.slice none 0 0) 1 24 ∧ kindOf d = .slice 89 ∧ aggD d = false := ⟨_, ⟨Try.underlying37, by kernel_rfl⟩, rfl, rfl⟩
theorem tk37 : TIok Try.prog 37 ti37 := ⟨ty37, by kernel_rfl, .inl rfl⟩
def ti39 : TI := ⟨.other, .nilFunc, 1, false, 8, []⟩
theorem ty39 : ∃ d, TY Try.prog 39 d (.nilFunc) 1 8 ∧ kindOf d = .other ∧ aggD d = false := ⟨_, ⟨Try.underlying39, by kernel_rfl⟩, rfl, rfl⟩
theorem tk39 : TIok Try.prog 39 ti39 := ⟨ty39, by kernel_rfl, .inl rfl⟩
def ti40 : TI := ⟨.other, .nilFunc, 1, false, 8, []⟩
theorem ty40 : ∃ d, TY Try.prog 40 d (.nilFunc) 1 8 ∧ kindOf d = .other ∧ aggD d = false := ⟨_, ⟨Try.underlying40, by kernel_rfl⟩, rfl, rfl⟩
theorem tk40 : TIok Try.prog 40 ti40 := ⟨ty40, by kernel_rfl, .inl rfl⟩
def ti41 : TI := ⟨.other, .nilFunc, 1, false, 8, []⟩
theorem ty41 : ∃ d, TY Try.prog 41 d (.nilFunc) 1 8 ∧ kindOf d = .other ∧ aggD d = false := ⟨_, ⟨Try.underlying41, by kernel_rfl⟩, rfl, rfl⟩
theorem tk41 : TIok Try.prog 41 ti41 := ⟨ty41, by kernel_rfl, .inl rfl⟩
def ti42 : TI := ⟨.other, .nilFunc, 1, false, 8, []⟩
theorem ty42 : ∃ d, TY Try.prog 42 d (.nilFunc) 1 8 ∧ kindOf d = .other ∧ aggD d = false := ⟨_, ⟨Try.underlying42, by kernel_rfl⟩, rfl, rfl⟩
theorem tk42 : TIok Try.prog 42 ti42 := ⟨ty42, by kernel_rfl, .inl rfl⟩
def ti43 : TI := ⟨.other, .nilFunc, 1, false, 8, []⟩
theorem ty43 : ∃ d, TY Try.prog 43 d (.nilFunc) 1 8 ∧ kindOf d = .other ∧ aggD d = false := ⟨_, ⟨Try.underlying43, by kernel_rfl⟩, rfl, rfl⟩
theorem tk43 : TIok Try.prog 43 ti43 := ⟨ty43, by kernel_rfl, .inl rfl⟩
def ti44 : TI := ⟨.slice 132, .slice none 0 0, 1, false, 24, []⟩
theorem ty44 : ∃ d, TY Try.prog 44 d (.slice none 0 0) 1 24 ∧ kindOf d = .slice 132 ∧ aggD d = false := ⟨_, ⟨Try.underlying44, by kernel_rfl⟩, rfl, rfl⟩
theorem tk44 : TIok Try.prog 44 ti44 := ⟨ty44, by kernel_rfl, .inl rfl⟩
def ti45 : TI := ⟨.slice 126, .slice none 0 0, 1, false, 24, []⟩
theorem ty45 : ∃ d, TY Try.prog 45 d (.slice none 0 0) 1 24 ∧ kindOf d = .slice 126 ∧ aggD d = false := ⟨_, ⟨Try.underlying45, by kernel_rfl⟩, rfl, rfl⟩
theorem tk45 : TIok Try.prog 45 ti45 := ⟨ty45, by kernel_rfl, .inl rfl⟩
def ti46 : TI := ⟨.struct, .agg #[.slice none 0 0, .slice none 0 0], 2, true, 48, [(0, 1), (1, 1)]⟩
theorem ty46 : ∃ d, TY Try.prog 46 d (.agg #[.slice none 0 0, .slice none 0 0]) 2 48 ∧ kindOf d = .struct ∧ aggD d = true := ⟨_, ⟨Try.underlying46, by kernel_rfl⟩, rfl, rfl⟩
theorem tk46 : TIok Try.prog 46 ti46 := ⟨ty46, by kernel_rfl, .inr ⟨_, Try.underlying46, by kernel_rfl⟩⟩
def ti47 : TI := ⟨.struct, .agg #[.slice none 0 0, .slice none 0 0], 2, true, 48, [(0, 1), (1, 1)]⟩
theorem ty47 : ∃ d, TY Try.prog 47 d (.agg #[.slice none 0 0, .slice none 0 0]) 2 48 ∧ kindOf d = .struct ∧ aggD d = true := ⟨_, ⟨Try.underlying47, by kernel_rfl⟩, rfl, rfl⟩
theorem tk47 : TIok Try.prog 47 ti47 := ⟨ty47, by kernel_rfl, .inr ⟨_, Try.underlying47, by kernel_rfl⟩⟩
def ti48 : TI := ⟨.struct, .agg #[.int .i64 0, .int .i64 0, .int .i64 0, .int .i64 0], 4, true, 32, [(0, 1), (1, 1), (2, 1), (3, 1)]⟩
theorem ty48 : ∃ d, TY Try.prog 48 d (.agg #[.int .i64 0, .int .i64 0, .int .i64 0, .int .i64 0]) 4 32 ∧ kindOf d = .struct ∧ aggD d = true := ⟨_, ⟨Try.underlying48, by kernel_rfl⟩, rfl, rfl⟩
theorem tk48 : TIok Try.prog 48 ti48 := ⟨ty48, by kernel_rfl, .inr ⟨_, Try.underlying48, by kernel_rfl⟩⟩
def ti49 : TI := ⟨.struct, .agg #[.int .i64 0, .int .i64 0, .int .i64 0, .int .i64 0], 4, true, 32, [(0, 1), (1, 1), (2, 1), (3, 1)]⟩
theorem ty49 : ∃ d, TY Try.prog 49 d (.agg #[.int .i64 0, .int .i64 0, .int .i64 0, .int .i64 0]) 4 32 ∧ kindOf d = .struct ∧ aggD d = true := ⟨_, ⟨Try.underlying49, by kernel_rfl⟩, rfl, rfl⟩
theorem tk49 : TIok Try.prog 49 ti49 := ⟨ty49, by kernel_rfl, .inr ⟨_, Try.underlying49, by kernel_rfl⟩⟩
def ti50 : TI := ⟨.other, .nilFunc, 1, false, 8, []⟩
theorem ty50 : ∃ d, TY Try.prog 50 d (.nilFunc) 1 8 ∧ kindOf d = .other ∧ aggD d = false := ⟨_, ⟨Try.underlying50, by kernel_rfl⟩, rfl, rfl⟩
theorem tk50 : TIok Try.prog 50 ti50 := ⟨ty50, by kernel_rfl, .inl rfl⟩
def ti51 : TI := ⟨.slice 128, .slice none 0 0, 1, false, 24, []⟩
theorem ty51 : ∃ d, TY Try.prog 51 d (.slice none 0 0) 1 24 ∧ kindOf d = .slice 128 ∧ aggD d = false := ⟨_, ⟨Try.underlying51, by kernel_rfl⟩, rfl, rfl⟩
theorem tk51 : TIok Try.prog 51 ti51 := ⟨ty51, by kernel_rfl, .inl rfl⟩
def ti52 : TI := ⟨.slice 129, .slice none 0 0, 1, false, 24, []⟩
theorem ty52 : ∃ d, TY Try.prog 52 d (.slice none 0 0) 1 24 ∧ kindOf d = .slice 129 ∧ aggD d = false := ⟨_, ⟨Try.underlying52, by kernel_rfl⟩, rfl, rfl⟩
theorem tk52 : TIok Try.prog 52 ti52 := ⟨ty52, by kernel_rfl, .inl rfl⟩
def ti53 : TI := ⟨.struct, .agg #[.slice none 0 0, .slice none 0 0], 2, true, 48, [(0, 1), (1, 1)]⟩
theorem ty53 : ∃ d, TY Try.prog 53 d (.agg #[.slice none 0 0, .slice none 0 0]) 2 48 ∧ kindOf d = .struct ∧ aggD d = true := ⟨_, ⟨Try.underlying53, by kernel_rfl⟩, rfl, rfl⟩
theorem tk53 : TIok Try.prog 53 ti53 := ⟨ty53, by kernel_rfl, .inr ⟨_, Try.underlying53, by kernel_rfl⟩⟩
def ti54 : TI := ⟨.struct, .agg #[.slice none 0 0, .slice none 0 0], 2, true, 48, [(0, 1), (1, 1)]⟩
theorem ty54 : ∃ d, TY Try.prog 54 d (.agg #[.slice none 0 0, .slice none 0 0]) 2 48 ∧ kindOf d = .struct ∧ aggD d = true := ⟨_, ⟨Try.underlying54, by kernel_rfl⟩, rfl, rfl⟩
theorem tk54 : TIok Try.prog 54 ti54 := ⟨ty54, by kernel_rfl, .inr ⟨_, Try.underlying54, by kernel_rfl⟩⟩
def ti56 : TI := ⟨.other, .nilFunc, 1, false, 8, []⟩
theorem ty56 : ∃ d, TY Try.prog 56 d (.nilFunc) 1 8 ∧ kindOf d = .other ∧ aggD d = false := ⟨_, ⟨Try.underlying56, by kernel_rfl⟩, rfl, rfl⟩
theorem tk56 : TIok Try.prog 56 ti56 := ⟨ty56, by kernel_rfl, .inl rfl⟩
def ti57 : TI := ⟨.other, .nilFunc, 1, false, 8, []⟩
theorem ty57 : ∃ d, TY Try.prog 57 d (.nilFunc) 1 8 ∧ kindOf d = .other ∧ aggD d = false := ⟨_, ⟨Try.underlying57, by kernel_rfl⟩, rfl, rfl⟩
theorem tk57 : TIok Try.prog 57 ti57 := ⟨ty57, by kernel_rfl, .inl rfl⟩
def ti58 : TI := ⟨.struct, .agg #[.int .i64 0, .int .i64 0, .int .i64 0, .int .i64 0], 4, true, 32, [(0, 1), (1, 1), (2, 1), (3, 1)]⟩
theorem ty58 : ∃ d, TY Try.prog 58 d (.agg #[.int .i64 0, .int .i64 0, .int .i64 0, .int .i64 0]) 4 32 ∧ kindOf d = .struct ∧ aggD d = true := ⟨_, ⟨Try.underlying58, by kernel_rfl⟩, rfl, rfl⟩
theorem tk58 : TIok Try.prog 58 ti58 := ⟨ty58, by kernel_rfl, .inr ⟨_, Try.underlying58, by kernel_rfl⟩⟩
def ti59 : TI := ⟨.other, .nilFunc, 1, false, 8, []⟩
theorem ty59 : ∃ d, TY Try.prog 59 d (.nilFunc) 1 8 ∧ kindOf d = .other ∧ aggD d = false := ⟨_, ⟨Try.underlying59, by kernel_rfl⟩, rfl, rfl⟩
theorem tk59 : TIok Try.prog 59 ti59 := ⟨ty59, by kernel_rfl, .inl rfl⟩
def ti60 : TI := ⟨.other, .nilFunc, 1, false, 8, []⟩
theorem ty60 : ∃ d, TY Try.prog 60 d (.nilFunc) 1 8 ∧ kindOf d = .other ∧ aggD d = false := ⟨_, ⟨Try.underlying60, by kernel_rfl⟩, rfl, rfl⟩
theorem tk60 : TIok Try.prog 60 ti60 := ⟨ty60, by kernel_rfl, .inl rfl⟩
def ti61 : TI := ⟨.other, .nilFunc, 1, false, 8, []⟩
theorem ty61 : ∃ d, TY Try.prog 61 d (.nilFunc) 1 8 ∧ kindOf d = .other ∧ aggD d = false := ⟨_, ⟨Try.underlying61, by kernel_rfl⟩, rfl, rfl⟩
theorem tk61 : TIok Try.prog 61 ti61 := ⟨ty61, by kernel_rfl, .inl rfl⟩
def ti62 : TI := ⟨.other, .nilFunc, 1, false, 8, []⟩
theorem ty62 : ∃ d, TY Try.prog 62 d (.nilFunc) 1 8 ∧ kindOf d = .other ∧ aggD d = false := ⟨_, ⟨Try.underlying62, by kernel_rfl⟩, rfl, rfl⟩
theorem tk62 : TIok Try.prog 62 ti62 := ⟨ty62, by kernel_rfl, .inl rfl⟩
def ti63 : TI := ⟨.other, .nilFunc, 1, false, 8, []⟩
theorem ty63 : ∃ d, TY Try.prog 63 d (.nilFunc) 1 8 ∧ kindOf d = .other ∧ aggD d = false := ⟨_, ⟨Try.underlying63, by kernel_rfl⟩, rfl, rfl⟩
theorem tk63 : TIok Try.prog 63 ti63 := ⟨ty63, by kernel_rfl, .inl rfl⟩
def ti64 : TI := ⟨.slice 3, .slice none 0 0, 1, false, 24, []⟩
theorem ty64 : ∃ d, TY Try.prog 64 d (.slice none 0 0) 1 24 ∧ kindOf d = .slice 3 ∧ aggD d = false := ⟨_, ⟨Try.underlying64, by kernel_rfl⟩, rfl, rfl⟩
theorem tk64 : TIok Try.prog 64 ti64 := ⟨ty64, by kernel_rfl, .inl rfl⟩
def ti65 : TI := ⟨.struct, .agg #[.slice none 0 0], 1, true, 24, [(0, 1)]⟩
theorem ty65 : ∃ d, TY Try.prog 65 d (.agg #[.slice none 0 0]) 1 24 ∧ kindOf d = .struct ∧ aggD d = true := ⟨_, ⟨Try.underlying65, by kernel_rfl⟩, rfl, rfl⟩
theorem tk65 : TIok Try.prog 65 ti65 := ⟨ty65, by kernel_rfl, .inr ⟨_, Try.underlying65, by kernel_rfl⟩⟩
def ti66 : TI := ⟨.struct, .agg #[.slice none 0 0], 1, true, 24, [(0, 1)]⟩
theorem ty66 : ∃ d, TY Try.prog 66 d (.agg #[.slice none 0 0]) 1 24 ∧ kindOf d = .struct ∧ aggD d = true := ⟨_, ⟨Try.underlying66, by kernel_rfl⟩, rfl, rfl⟩
theorem tk66 : TIok Try.prog 66 ti66 := ⟨ty66, by kernel_rfl, .inr ⟨_, Try.underlying66, by kernel_rfl⟩⟩
def ti67 : TI := ⟨.struct, .agg #[.slice none 0 0, .int .i64 0], 2, true, 32, [(0, 1), (1, 1)]⟩
theorem ty67 : ∃ d, TY Try.prog 67 d (.agg #[.slice none 0 0, .int .i64 0]) 2 32 ∧ kindOf d = .struct ∧ aggD d = true := ⟨_, ⟨Try.underlying67, by kernel_rfl⟩, rfl, rfl⟩
theorem tk67 : TIok Try.prog 67 ti67 := ⟨ty67, by kernel_rfl, .inr ⟨_, Try.underlying67, by kernel_rfl⟩⟩
def ti68 : TI := ⟨.struct, .agg #[.slice none 0 0, .int .i64 0], 2, true, 32, [(0, 1), (1, 1)]⟩
theorem ty68 : ∃ d, TY Try.prog 68 d (.agg #[.slice none 0 0, .int .i64 0]) 2 32 ∧ kindOf d = .struct ∧ aggD d = true := ⟨_, ⟨Try.underlying68, by kernel_rfl⟩, rfl, rfl⟩
theorem tk68 : TIok Try.prog 68 ti68 := ⟨ty68, by kernel_rfl, .inr ⟨_, Try.underlying68, by kernel_rfl⟩⟩
def ti69 : TI := ⟨.other, .nilFunc, 1, false, 8, []⟩
theorem ty69 : ∃ d, TY Try.prog 69 d (.nilFunc) 1 8 ∧ kindOf d = .other ∧ aggD d = false := ⟨_, ⟨Try.underlying69, by kernel_rfl⟩, rfl, rfl⟩
theorem tk69 : TIok Try.prog 69 ti69 := ⟨ty69, by kernel_rfl, .inl rfl⟩
def ti70 : TI := ⟨.struct, .agg #[.slice none 0 0], 1, true, 24, [(0, 1)]⟩
theorem ty70 : ∃ d, TY Try.prog 70 d (.agg #[.slice none 0 0]) 1 24 ∧ kindOf d = .struct ∧ aggD d = true := ⟨_, ⟨Try.underlying70, by kernel_rfl⟩, rfl, rfl⟩
theorem tk70 : TIok Try.prog 70 ti70 := ⟨ty70, by kernel_rfl, .inr ⟨_, Try.underlying70, by kernel_rfl⟩⟩
def ti71 : TI := ⟨.struct, .agg #[.slice none 0 0, .int .i64 0], 2, true, 32, [(0, 1), (1, 1)]⟩
theorem ty71 : ∃ d, TY Try.prog 71 d (.agg #[.slice none 0 0, .int .i64 0]) 2 32 ∧ kindOf d = .struct ∧ aggD d = true := ⟨_, ⟨Try.underlying71, by kernel_rfl⟩, rfl, rfl⟩
theorem tk71 : TIok Try.prog 71 ti71 := ⟨ty71, by kernel_rfl, .inr ⟨_, Try.underlying71, by kernel_rfl⟩⟩
def ti72 : TI := ⟨.struct, .agg #[.slice none 0 0, .int .i64 0], 2, true, 32, [(0, 1), (1, 1)]⟩
theorem ty72 : ∃ d, TY Try.prog 72 d (.agg #[.slice none 0 0, .int .i64 0]) 2 32 ∧ kindOf d = .struct ∧ aggD d = true := ⟨_, ⟨Try.underlying72, by kernel_rfl⟩, rfl, rfl⟩
theorem tk72 : TIok Try.prog 72 ti72 := ⟨ty72, by kernel_rfl, .inr ⟨_, Try.underlying72, by kernel_rfl⟩⟩
def ti73 : TI := ⟨.other, .nilFunc, 1, false, 8, []⟩
theorem ty73 : ∃ d, TY Try.prog 73 d (.nilFunc) 1 8 ∧ kindOf d = .other ∧ aggD d = false := ⟨_, ⟨Try.underlying73, by kernel_rfl⟩, rfl, rfl⟩
theorem tk73 : TIok Try.prog 73 ti73 := ⟨ty73, by kernel_rfl, .inl rfl⟩
def ti74 : TI := ⟨.other, .nilFunc, 1, false, 8, []⟩
theorem ty74 : ∃ d, TY Try.prog 74 d (.nilFunc) 1 8 ∧ kindOf d = .other ∧ aggD d = false := ⟨_, ⟨Try.underlying74, by kernel_rfl⟩, rfl, rfl⟩
theorem tk74 : TIok Try.prog 74 ti74 := ⟨ty74, by kernel_rfl, .inl rfl⟩
def ti75 : TI := ⟨.other, .nilFunc, 1, false, 8, []⟩
theorem ty75 : ∃ d, TY Try.prog 75 d (.nilFunc) 1 8 ∧ kindOf d = .other ∧ aggD d = false := ⟨_, ⟨Try.underlying75, by kernel_rfl⟩, rfl, rfl⟩
theorem tk75 : TIok Try.prog 75 ti75 := ⟨ty75, by kernel_rfl, .inl rfl⟩
def ti76 : TI := ⟨.other, .nilFunc, 1, false, 8, []⟩
theorem ty76 : ∃ d, TY Try.prog 76 d (.nilFunc) 1 8 ∧ kindOf d = .other ∧ aggD d = false := ⟨_, ⟨Try.underlying76, by kernel_rfl⟩, rfl, rfl⟩
theorem tk76 : TIok Try.prog 76 ti76 := ⟨ty76, by kernel_rfl, .inl rfl⟩
def ti77 : TI := ⟨.other, .nilFunc, 1, false, 8, []⟩
theorem ty77 : ∃ d, TY Try.prog 77 d (.nilFunc) 1 8 ∧ kindOf d = .other ∧ aggD d = false := ⟨_, ⟨Try.underlying77, by kernel_rfl⟩, rfl, rfl⟩
theorem tk77 : TIok Try.prog 77 ti77 := ⟨ty77, by kernel_rfl, .inl rfl⟩
def ti78 : TI := ⟨.other, .nilFunc, 1, false, 8, []⟩
theorem ty78 : ∃ d, TY Try.prog 78 d (.nilFunc) 1 8 ∧ kindOf d = .other ∧ aggD d = false := ⟨_, ⟨Try.underlying78, by kernel_rfl⟩, rfl, rfl⟩
theorem tk78 : TIok Try.prog 78 ti78 := ⟨ty78, by kernel_rfl, .inl rfl⟩
def ti79 : TI := ⟨.other, .nilFunc, 1, false, 8, []⟩
theorem ty79 : ∃ d, TY Try.prog 79 d (.nilFunc) 1 8 ∧ kindOf d = .other ∧ aggD d = false := ⟨_, ⟨Try.underlying79, by kernel_rfl⟩, rfl, rfl⟩
theorem tk79 : TIok Try.prog 79 ti79 := ⟨ty79, by kernel_rfl, .inl rfl⟩
def ti80 : TI := ⟨.other, .nilFunc, 1, false, 8, []⟩
theorem ty80 : ∃ d, TY Try.prog 80 d (.nilFunc) 1 8 ∧ kindOf d = .other ∧ aggD d = false := ⟨_, ⟨Try.underlying80, by kernel_rfl⟩, rfl, rfl⟩
theorem tk80 : TIok Try.prog 80 ti80 := ⟨ty80, by kernel_rfl, .inl rfl⟩
def ti81 : TI := ⟨.other, .nilFunc, 1, false, 8, []⟩
theorem ty81 : ∃ d, TY Try.prog 81 d (.nilFunc) 1 8 ∧ kindOf d = .other ∧ aggD d = false := ⟨_, ⟨Try.underlying81, by kernel_rfl⟩, rfl, rfl⟩
theorem tk81 : TIok Try.prog 81 ti81 := ⟨ty81, by kernel_rfl, .inl rfl⟩
def ti82 : TI := ⟨.other, .nilFunc, 1, false, 8, []⟩
theorem ty82 : ∃ d, TY Try.prog 82 d (.nilFunc) 1 8 ∧ kindOf d = .other ∧ aggD d = false := ⟨_, ⟨Try.underlying82, by kernel_rfl⟩, rfl, rfl⟩
theorem tk82 : TIok Try.prog 82 ti82 := ⟨ty82, by kernel_rfl, .inl rfl⟩
def ti83 : TI := ⟨.other, .nilFunc, 1, false, 8, []⟩
theorem ty83 : ∃ d, TY Try.prog 83 d (.nilFunc) 1 8 ∧ kindOf d = .other ∧ aggD d = false := ⟨_, ⟨Try.underlying83, by kernel_rfl⟩, rfl, rfl⟩
theorem tk83 : TIok Try.prog 83 ti83 := ⟨ty83, by kernel_rfl, .inl rfl⟩
def ti84 : TI := ⟨.other, .nilFunc, 1, false, 8, []⟩
theorem ty84 : ∃ d, TY Try.prog 84 d (.nilFunc) 1 8 ∧ kindOf d = .other ∧ aggD d = false := ⟨_, ⟨Try.underlying84, by kernel_rfl⟩, rfl, rfl⟩
theorem tk84 : TIok Try.prog 84 ti84 := ⟨ty84, by kernel_rfl, .inl rfl⟩
def ti85 : TI := ⟨.struct, .agg #[.slice none 0 0, .int .i64 0, .int .i64 0], 3, true, 40, [(0, 1), (1, 1), (2, 1)]⟩
theorem ty85 : ∃ d, TY Try.prog 85 d (.agg #[.slice none 0 0, .int .i64 0, .int .i64 0]) 3 40 ∧ kindOf d = .struct ∧ aggD d = true := ⟨_, ⟨Try.underlying85, by kernel_rfl⟩, rfl, rfl⟩
theorem tk85 : TIok Try.prog 85 ti85 := ⟨ty85, by kernel_rfl, .inr ⟨_, Try.underlying85, by kernel_rfl⟩⟩
def ti86 : TI := ⟨.struct, .agg #[.slice none 0 0, .int .i64 0, .int .i64 0], 3, true, 40, [(0, 1), (1, 1), (2, 1)]⟩
theorem ty86 : ∃ d, TY Try.prog 86 d (.agg #[.slice none 0 0, .int .i64 0, .int .i64 0]) 3 40 ∧ kindOf d = .struct ∧ aggD d = true := ⟨_, ⟨Try.underlying86, by kernel_rfl⟩, rfl, rfl⟩
theorem tk86 : TIok Try.prog 86 ti86 := ⟨ty86, by kernel_rfl, .inr ⟨_, Try.underlying86, by kernel_rfl⟩⟩
def ti87 : TI := ⟨.other, .nilFunc, 1, false, 8, []⟩
theorem ty87 : ∃ d, TY Try.prog 87 d (.nilFunc) 1 8 ∧ kindOf d = .other ∧ aggD d = false := ⟨_, ⟨Try.underlying87, by kernel_rfl⟩, rfl, rfl⟩
theorem tk87 : TIok Try.prog 87 ti87 := ⟨ty87, by kernel_rfl, .inl rfl⟩
def ti88 : TI := ⟨.struct, .agg #[.slice none 0 0, .int .i64 0, .int .i64 0], 3, true, 40, [(0, 1), (1, 1), (2, 1)]⟩
theorem ty88 : ∃ d, TY Try.prog 88 d (.agg #[.slice none 0 0, .int .i64 0, .int .i64 0]) 3 40 ∧ kindOf d = .struct ∧ aggD d = true := ⟨_, ⟨Try.underlying88, by kernel_rfl⟩, rfl, rfl⟩
theorem tk88 : TIok Try.prog 88 ti88 := ⟨ty88, by kernel_rfl, .inr ⟨_, Try.underlying88, by kernel_rfl⟩⟩
def ti89 : TI := ⟨.struct, .agg #[.slice none 0 0, .int .i64 0, .int .i64 0], 3, true, 40, [(0, 1), (1, 1), (2, 1)]⟩
theorem ty89 : ∃ d, TY Try.prog 89 d (.agg #[.slice none 0 0, .int .i64 0, .int .i64 0]) 3 40 ∧ kindOf d = .struct ∧ aggD d = true := ⟨_, ⟨Try.underlying89, by kernel_rfl⟩, rfl, rfl⟩
theorem tk89 : TIok Try.prog 89 ti89 := ⟨ty89, by kernel_rfl, .inr ⟨_, Try.underlying89, by kernel_rfl⟩⟩
def ti90 : TI := ⟨.other, .nilFunc, 1, false, 8, []⟩
theorem ty90 : ∃ d, TY Try.prog 90 d (.nilFunc) 1 8 ∧ kindOf d = .other ∧ aggD d = false := ⟨_, ⟨Try.underlying90, by kernel_rfl⟩, rfl, rfl⟩
theorem tk90 : TIok Try.prog 90 ti90 := ⟨ty90, by kernel_rfl, .inl rfl⟩
def ti91 : TI := ⟨.other, .nilFunc, 1, false, 8, []⟩
theorem ty91 : ∃ d, TY Try.prog 91 d (.nilFunc) 1 8 ∧ kindOf d = .other ∧ aggD d = false := ⟨_, ⟨Try.underlying91, by kernel_rfl⟩, rfl, rfl⟩
theorem tk91 : TIok Try.prog 91 ti91 := ⟨ty91, by kernel_rfl, .inl rfl⟩
def ti92 : TI := ⟨.other, .nilFunc, 1, false, 8, []⟩
theorem ty92 : ∃ d, TY Try.prog 92 d (.nilFunc) 1 8 ∧ kindOf d = .other ∧ aggD d = false := ⟨_, ⟨Try.underlying92, by kernel_rfl⟩, rfl, rfl⟩
theorem tk92 : TIok Try.prog 92 ti92 := ⟨ty92, by kernel_rfl, .inl rfl⟩
def ti93 : TI := ⟨.other, .nilFunc, 1, false, 8, []⟩
theorem ty93 : ∃ d, TY Try.prog 93 d (.nilFunc) 1 8 ∧ kindOf d = .other ∧ aggD d = false := ⟨_, ⟨Try.underlying93, by kernel_rfl⟩, rfl, rfl⟩
theorem tk93 : TIok Try.prog 93 ti93 := ⟨ty93, by kernel_rfl, .inl rfl⟩
def ti94 : TI := ⟨.other, .nilFunc, 1, false, 8, []⟩
theorem ty94 : ∃ d, TY Try.prog 94 d (.nilFunc) 1 8 ∧ kindOf d = .other ∧ aggD d = false := ⟨_, ⟨Try.underlying94, by kernel_rfl⟩, rfl, rfl⟩
theorem tk94 : TIok Try.prog 94 ti94 := ⟨ty94, by kernel_rfl, .inl rfl⟩
def ti95 : TI := ⟨.other, .nilFunc, 1, false, 8, []⟩
theorem ty95 : ∃ d, TY Try.prog 95 d (.nilFunc) 1 8 ∧ kindOf d = .other ∧ aggD d = false := ⟨_, ⟨Try.underlying95, by kernel_rfl⟩, rfl, rfl⟩
theorem tk95 : TIok Try.prog 95 ti95 := ⟨ty95, by kernel_rfl, .inl rfl⟩
def ti96 : TI := ⟨.other, .nilFunc, 1, false, 8, []⟩
theorem ty96 : ∃ d, TY Try.prog 96 d (.nilFunc) 1 8 ∧ kindOf d = .other ∧ aggD d = false := ⟨_, ⟨Try.underlying96, by kernel_rfl⟩, rfl, rfl⟩
theorem tk96 : TIok Try.prog 96 ti96 := ⟨ty96, by kernel_rfl, .inl rfl⟩
def ti97 : TI := ⟨.other, .nilFunc, 1, false, 8, []⟩
theorem ty97 : ∃ d, TY Try.prog 97 d (.nilFunc) 1 8 ∧ kindOf d = .other ∧ aggD d = false := ⟨_, ⟨Try.underlying97, by kernel_rfl⟩, rfl, rfl⟩
theorem tk97 : TIok Try.prog 97 ti97 := ⟨ty97, by kernel_rfl, .inl rfl⟩
def ti98 : TI := ⟨.other, .nilFunc, 1, false, 8, []⟩
theorem ty98 : ∃ d, TY Try.prog 98 d (.nilFunc) 1 8 ∧ kindOf d = .other ∧ aggD d = false := ⟨_, ⟨Try.underlying98, by kernel_rfl⟩, rfl, rfl⟩
theorem tk98 : TIok Try.prog 98 ti98 := ⟨ty98, by kernel_rfl, .inl rfl⟩
def ti99 : TI := ⟨.other, .nilFunc, 1, false, 8, []⟩
theorem ty99 : ∃ d, TY Try.prog 99 d (.nilFunc) 1 8 ∧ kindOf d = .other ∧ aggD d = false := ⟨_, ⟨Try.underlying99, by kernel_rfl⟩, rfl, rfl⟩
theorem tk99 : TIok Try.prog 99 ti99 := ⟨ty99, by kernel_rfl, .inl rfl⟩
def ti100 : TI := ⟨.other, .nilFunc, 1, false, 8, []⟩
theorem ty100 : ∃ d, TY Try.prog 100 d (.nilFunc) 1 8 ∧ kindOf d = .other ∧ aggD d = false := ⟨_, ⟨Try.underlying100, by kernel_rfl⟩, rfl, rfl⟩
theorem tk100 : TIok Try.prog 100 ti100 := ⟨ty100, by kernel_rfl, .inl rfl⟩
def ti101 : TI := ⟨.other, .nilFunc, 1, false, 8, []⟩
theorem ty101 : ∃ d, TY Try.prog 101 d (.nilFunc) 1 8 ∧ kindOf d = .other ∧ aggD d = false := ⟨_, ⟨Try.underlying101, by kernel_rfl⟩, rfl, rfl⟩
theorem tk101 : TIok Try.prog 101 ti101 := ⟨ty101, by kernel_rfl, .inl rfl⟩
def ti102 : TI := ⟨.other, .nilFunc, 1, false, 8, []⟩
theorem ty102 : ∃ d, TY Try.prog 102 d (.nilFunc) 1 8 ∧ kindOf d = .other ∧ aggD d = false := ⟨_, ⟨Try.underlying102, by kernel_rfl⟩, rfl, rfl⟩
theorem tk102 : TIok Try.prog 102 ti102 := ⟨ty102, by kernel_rfl, .inl rfl⟩
def ti103 : TI := ⟨.other, .nilFunc, 1, false, 8, []⟩
theorem ty103 : ∃ d, TY Try.prog 103 d (.nilFunc) 1 8 ∧ kindOf d = .other ∧ aggD d = false := ⟨_, ⟨Try.underlying103, by kernel_rfl⟩, rfl, rfl⟩
theorem tk103 : TIok Try.prog 103 ti103 := ⟨ty103, by kernel_rfl, .inl rfl⟩
def ti104 : TI := ⟨.other, .nilFunc, 1, false, 8, []⟩
theorem ty104 : ∃ d, TY Try.prog 104 d (.nilFunc) 1 8 ∧ kindOf d = .other ∧ aggD d = false := ⟨_, ⟨Try.underlying104, by kernel_rfl⟩, rfl, rfl⟩
theorem tk104 : TIok Try.prog 104 ti104 := ⟨ty104, by kernel_rfl, .inl rfl⟩
def ti105 : TI := ⟨.other, .nilFunc, 1, false, 8, []⟩
theorem ty105 : ∃ d, TY Try.prog 105 d (.nilFunc) 1 8 ∧ kindOf d = .other ∧ aggD d = false := ⟨_, ⟨Try.underlying105, by kernel_rfl⟩, rfl, rfl⟩
theorem tk105 : TIok Try.prog 105 ti105 := ⟨ty105, by kernel_rfl, .inl rfl⟩
def ti106 : TI := ⟨.other, .nilFunc, 1, false, 8, []⟩
theorem ty106 : ∃ d, TY Try.prog 106 d (.nilFunc) 1 8 ∧ kindOf d = .other ∧ aggD d = false := ⟨_, ⟨Try.underlying106, by kernel_rfl⟩, rfl, rfl⟩
theorem tk106 : TIok Try.prog 106 ti106 := ⟨ty106, by kernel_rfl, .inl rfl⟩
def ti107 : TI := ⟨.other, .nilFunc, 1, false, 8, []⟩
theorem ty107 : ∃ d, TY Try.prog 107 d (.nilFunc) 1 8 ∧ kindOf d = .other ∧ aggD d = false := ⟨_, ⟨Try.underlying107, by kernel_rfl⟩, rfl, rfl⟩
theorem tk107 : TIok Try.prog 107 ti107 := ⟨ty107, by kernel_rfl, .inl rfl⟩
def ti108 : TI := ⟨.other, .nilFunc, 1, false, 8, []⟩
theorem ty108 : ∃ d, TY Try.prog 108 d (.nilFunc) 1 8 ∧ kindOf d = .other ∧ aggD d = false := ⟨_, ⟨Try.underlying108, by kernel_rfl⟩, rfl, rfl⟩
theorem tk108 : TIok Try.prog 108 ti108 := ⟨ty108, by kernel_rfl, .inl rfl⟩
def ti109 : TI := ⟨.other, .nilFunc, 1, false, 8, []⟩
theorem ty109 : ∃ d, TY Try.prog 109 d (.nilFunc) 1 8 ∧ kindOf d = .other ∧ aggD d = false := ⟨_, ⟨Try.underlying109, by kernel_rfl⟩, rfl, rfl⟩
theorem tk109 : TIok Try.prog 109 ti109 := ⟨ty109, by kernel_rfl, .inl rfl⟩
def ti110 : TI := ⟨.other, .nilFunc, 1, false, 8, []⟩
theorem ty110 : ∃ d, TY Try.prog 110 d (.nilFunc) 1 8 ∧ kindOf d = .other ∧ aggD d = false := ⟨_, ⟨Try.underlying110, by kernel_rfl⟩, rfl, rfl⟩
theorem tk110 : TIok Try.prog 110 ti110 := ⟨ty110, by kernel_rfl, .inl rfl⟩
def ti111 : TI := ⟨.other, .nilFunc, 1, false, 8, []⟩
theorem ty111 : ∃ d, TY Try.prog 111 d (.nilFunc) 1 8 ∧ kindOf d = .other ∧ aggD d = false := ⟨_, ⟨Try.underlying111, by kernel_rfl⟩, rfl, rfl⟩
theorem tk111 : TIok Try.prog 111 ti111 := ⟨ty111, by kernel_rfl, .inl rfl⟩
def ti112 : TI := ⟨.slice 24, .slice none 0 0, 1, false, 24, []⟩
theorem ty112 : ∃ d, TY Try.prog 112 d (.slice none 0 0) 1 24 ∧ kindOf d = .slice 24 ∧ aggD d = false := ⟨_, ⟨Try.underlying112, by kernel_rfl⟩, rfl, rfl⟩
theorem tk112 : TIok Try.prog 112 ti112 := ⟨ty112, by kernel_rfl, .inl rfl⟩
def ti113 : TI := ⟨.other, .nilFunc, 1, false, 8, []⟩
theorem ty113 : ∃ d, TY Try.prog 113 d (.nilFunc) 1 8 ∧ kindOf d = .other ∧ aggD d = false := ⟨_, ⟨Try.underlying113, by kernel_rfl⟩, rfl, rfl⟩
theorem tk113 : TIok Try.prog 113 ti113 := ⟨ty113, by kernel_rfl, .inl rfl⟩
def ti114 : TI := ⟨.other, .nilFunc, 1, false, 8, []⟩
theorem ty114 : ∃ d, TY Try.prog 114 d (.nilFunc) 1 8 ∧ kindOf d = .other ∧ aggD d = false := ⟨_, ⟨Try.underlying114, by kernel_rfl⟩, rfl, rfl⟩
theorem tk114 : TIok Try.prog 114 ti114 := ⟨ty114, by kernel_rfl, .inl rfl⟩
def ti115 : TI := ⟨.other, .nilFunc, 1, false, 8, []⟩
theorem ty115 : ∃ d, TY Try.prog 115 d (.nilFunc) 1 8 ∧ kindOf d = .other ∧ aggD d = false := ⟨_, ⟨Try.underlying115, by kernel_rfl⟩, rfl, rfl⟩
theorem tk115 : TIok Try.prog 115 ti115 := ⟨ty115, by kernel_rfl, .inl rfl⟩
def ti116 : TI := ⟨.other, .nilFunc, 1, false, 8, []⟩
theorem ty116 : ∃ d, TY Try.prog 116 d (.nilFunc) 1 8 ∧ kindOf d = .other ∧ aggD d = false := ⟨_, ⟨Try.underlying116, by kernel_rfl⟩, rfl, rfl⟩
theorem tk116 : TIok Try.prog 116 ti116 := ⟨ty116, by kernel_rfl, .inl rfl⟩
def ti117 : TI := ⟨.other, .nilFunc, 1, false, 8, []⟩
theorem ty117 : ∃ d, TY Try.prog 117 d (.nilFunc) 1 8 ∧ kindOf d = .other ∧ aggD d = false := ⟨_, ⟨Try.underlying117, by kernel_rfl⟩, rfl, rfl⟩
theorem tk117 : TIok Try.prog 117 ti117 := ⟨ty117, by kernel_rfl, .inl rfl⟩
def ti118 : TI := ⟨.slice 37, .slice none 0 0, 1, false, 24, []⟩
theorem ty118 : ∃ d, TY Try.prog 118 d (.slice none 0 0) 1 24 ∧ kindOf d = .slice 37 ∧ aggD d = false := ⟨_, ⟨Try.underlying118, by kernel_rfl⟩, rfl, rfl⟩
theorem tk118 : TIok Try.prog 118 ti118 := ⟨ty118, by kernel_rfl, .inl rfl⟩
def ti119 : TI := ⟨.other, .nilFunc, 1, false, 8, []⟩
theorem ty119 : ∃ d, TY Try.prog 119 d (.nilFunc) 1 8 ∧ kindOf d = .other ∧ aggD d = false := ⟨_, ⟨Try.underlying119, by kernel_rfl⟩, rfl, rfl⟩
theorem tk119 : TIok Try.prog 119 ti119 := ⟨ty119, by kernel_rfl, .inl rfl⟩
def ti120 : TI := ⟨.other, .nilFunc, 1, false, 8, []⟩
theorem ty120 : ∃ d, TY Try.prog 120 d (.nilFunc) 1 8 ∧ kindOf d = .other ∧ aggD d = false := ⟨_, ⟨Try.underlying120, by kernel_rfl⟩, rfl, rfl⟩
theorem tk120 : TIok Try.prog 120 ti120 := ⟨ty120, by kernel_rfl, .inl rfl⟩
def ti121 : TI := ⟨.other, .nilFunc, 1, false, 8, []⟩
theorem ty121 : ∃ d, TY Try.prog 121 d (.nilFunc) 1 8 ∧ kindOf d = .other ∧ aggD d = false := ⟨_, ⟨Try.underlying121, by kernel_rfl⟩, rfl, rfl⟩
theorem tk121 : TIok Try.prog 121 ti121 := ⟨ty121, by kernel_rfl, .inl rfl⟩
def ti122 : TI := ⟨.other, .nilFunc, 1, false, 8, []⟩
theorem ty122 : ∃ d, TY Try.prog 122 d (.nilFunc) 1 8 ∧ kindOf d = .other ∧ aggD d = false := ⟨_, ⟨Try.underlying122, by kernel_rfl⟩, rfl, rfl⟩
theorem tk122 : TIok Try.prog 122 ti122 := ⟨ty122, by kernel_rfl, .inl rfl⟩
def ti123 : TI := ⟨.other, .nilFunc, 1, false, 8, []⟩
theorem ty123 : ∃ d, TY Try.prog 123 d (.nilFunc) 1 8 ∧ kindOf d = .other ∧ aggD d = false := ⟨_, ⟨Try.underlying123, by kernel_rfl⟩, rfl, rfl⟩
theorem tk123 : TIok Try.prog 123 ti123 := ⟨ty123, by kernel_rfl, .inl rfl⟩
def ti124 : TI := ⟨.other, .nilFunc, 1, false, 8, []⟩
theorem ty124 : ∃ d, TY Try.prog 124 d (.nilFunc) 1 8 ∧ kindOf d = .other ∧ aggD d = false := ⟨_, ⟨Try.underlying124, by kernel_rfl⟩, rfl, rfl⟩
theorem tk124 : TIok Try.prog 124 ti124 := ⟨ty124, by kernel_rfl, .inl rfl⟩
def ti125 : TI := ⟨.struct, .agg #[.slice none 0 0, .slice none 0 0, .bool false], 3, true, 56, [(0, 1), (1, 1), (2, 1)]⟩
theorem ty125 : ∃ d, TY Try.prog 125 d (.agg #[.slice none 0 0, .slice none 0 0, .bool false]) 3 56 ∧ kindOf d = .struct ∧ aggD d = true := ⟨_, ⟨Try.underlying125, by kernel_rfl⟩, rfl, rfl⟩
theorem tk125 : TIok Try.prog 125 ti125 := ⟨ty125, by kernel_rfl, .inr ⟨_, Try.underlying125, by kernel_rfl⟩⟩
def ti126 : TI := ⟨.struct, .agg #[.slice none 0 0, .slice none 0 0, .bool false], 3, true, 56, [(0, 1), (1, 1), (2, 1)]⟩
theorem ty126 : ∃ d, TY Try.prog 126 d (.agg #[.slice none 0 0, .slice none 0 0, .bool false]) 3 56 ∧ kindOf d = .struct ∧ aggD d = true := ⟨_, ⟨Try.underlying126, by kernel_rfl⟩, rfl, rfl⟩
theorem tk126 : TIok Try.prog 126 ti126 := ⟨ty126, by kernel_rfl, .inr ⟨_, Try.underlying126, by kernel_rfl⟩⟩
def ti127 : TI := ⟨.struct, .agg #[.int .i64 0, .int .i64 0, .bool false], 3, true, 24, [(0, 1), (1, 1), (2, 1)]⟩
theorem ty127 : ∃ d, TY Try.prog 127 d (.agg #[.int .i64 0, .int .i64 0, .bool false]) 3 24 ∧ kindOf d = .struct ∧ aggD d = true := ⟨_, ⟨Try.underlying127, by kernel_rfl⟩, rfl, rfl⟩
theorem tk127 : TIok Try.prog 127 ti127 := ⟨ty127, by kernel_rfl, .inr ⟨_, Try.underlying127, by kernel_rfl⟩⟩
def ti128 : TI := ⟨.struct, .agg #[.int .i64 0, .int .i64 0, .bool false], 3, true, 24, [(0, 1), (1, 1), (2, 1)]⟩
theorem ty128 : ∃ d, TY Try.prog 128 d (.agg #[.int .i64 0, .int .i64 0, .bool false]) 3 24 ∧ kindOf d = .struct ∧ aggD d = true := ⟨_, ⟨Try.underlying128, by kernel_rfl⟩, rfl, rfl⟩
theorem tk128 : TIok Try.prog 128 ti128 := ⟨ty128, by kernel_rfl, .inr ⟨_, Try.underlying128, by kernel_rfl⟩⟩
def ti129 : TI := ⟨.struct, .agg #[.slice none 0 0, .slice none 0 0, .bool false], 3, true, 56, [(0, 1), (1, 1), (2, 1)]⟩
theorem ty129 : ∃ d, TY Try.prog 129 d (.agg #[.slice none 0 0, .slice none 0 0, .bool false]) 3 56 ∧ kindOf d = .struct ∧ aggD d = true := ⟨_, ⟨Try.underlying129, by kernel_rfl⟩, rfl, rfl⟩
theorem tk129 : TIok Try.prog 129 ti129 := ⟨ty129, by kernel_rfl, .inr ⟨_, Try.underlying129, by kernel_rfl⟩⟩
def ti130 : TI := ⟨.other, .nilFunc, 1, false, 8, []⟩
theorem ty130 : ∃ d, TY Try.prog 130 d (.nilFunc) 1 8 ∧ kindOf d = .other ∧ aggD d = false := ⟨_, ⟨Try.underlying130, by kernel_rfl⟩, rfl, rfl⟩
theorem tk130 : TIok Try.prog 130 ti130 := ⟨ty130, by kernel_rfl, .inl rfl⟩
def ti131 : TI := ⟨.other, .nilFunc, 1, false, 8, []⟩
theorem ty131 : ∃ d, TY Try.prog 131 d (.nilFunc) 1 8 ∧ kindOf d = .other ∧ aggD d = false := ⟨_, ⟨Try.underlying131, by kernel_rfl⟩, rfl, rfl⟩
theorem tk131 : TIok Try.prog 131 ti131 := ⟨ty131, by kernel_rfl, .inl rfl⟩
def ti132 : TI := ⟨.struct, .agg #[.int .i64 0, .int .i64 0, .bool false], 3, true, 24, [(0, 1), (1, 1), (2, 1)]⟩
theorem ty132 : ∃ d, TY Try.prog 132 d (.agg #[.int .i64 0, .int .i64 0, .bool false]) 3 24 ∧ kindOf d = .struct ∧ aggD d = true := ⟨_, ⟨Try.underlying132, by kernel_rfl⟩, rfl, rfl⟩
theorem tk132 : TIok Try.prog 132 ti132 := ⟨ty132, by kernel_rfl, .inr ⟨_, Try.underlying132, by kernel_rfl⟩⟩
def ti133 : TI := ⟨.other, .nilFunc, 1, false, 8, []⟩
theorem ty133 : ∃ d, TY Try.prog 133 d (.nilFunc) 1 8 ∧ kindOf d = .other ∧ aggD d = false := ⟨_, ⟨Try.underlying133, by kernel_rfl⟩, rfl, rfl⟩
theorem tk133 : TIok Try.prog 133 ti133 := ⟨ty133, by kernel_rfl, .inl rfl⟩
def ti134 : TI := ⟨.other, .nilFunc, 1, false, 8, []⟩
theorem ty134 : ∃ d, TY Try.prog 134 d (.nilFunc) 1 8 ∧ kindOf d = .other ∧ aggD d = false := ⟨_, ⟨Try.underlying134, by kernel_rfl⟩, rfl, rfl⟩
theorem tk134 : TIok Try.prog 134 ti134 := ⟨ty134, by kernel_rfl, .inl rfl⟩
def ti135 : TI := ⟨.other, .nilFunc, 1, false, 8, []⟩
theorem ty135 : ∃ d, TY Try.prog 135 d (.nilFunc) 1 8 ∧ kindOf d = .other ∧ aggD d = false := ⟨_, ⟨Try.underlying135, by kernel_rfl⟩, rfl, rfl⟩
theorem tk135 : TIok Try.prog 135 ti135 := ⟨ty135, by kernel_rfl, .inl rfl⟩
def ti136 : TI := ⟨.other, .nilFunc, 1, false, 8, []⟩
theorem ty136 : ∃ d, TY Try.prog 136 d (.nilFunc) 1 8 ∧ kindOf d = .other ∧ aggD d = false := ⟨_, ⟨Try.underlying136, by kernel_rfl⟩, rfl, rfl⟩
theorem tk136 : TIok Try.prog 136 ti136 := ⟨ty136, by kernel_rfl, .inl rfl⟩
def ti137 : TI := ⟨.other, .nilFunc, 1, false, 8, []⟩
theorem ty137 : ∃ d, TY Try.prog 137 d (.nilFunc) 1 8 ∧ kindOf d = .other ∧ aggD d = false := ⟨_, ⟨Try.underlying137, by kernel_rfl⟩, rfl, rfl⟩
theorem tk137 : TIok Try.prog 137 ti137 := ⟨ty137, by kernel_rfl, .inl rfl⟩
def ti138 : TI := ⟨.other, .nilFunc, 1, false, 8, []⟩
theorem ty138 : ∃ d, TY Try.prog 138 d (.nilFunc) 1 8 ∧ kindOf d = .other ∧ aggD d = false := ⟨_, ⟨Try.underlying138, by kernel_rfl⟩, rfl, rfl⟩
theorem tk138 : TIok Try.prog 138 ti138 := ⟨ty138, by kernel_rfl, .inl rfl⟩
def ti139 : TI := ⟨.other, .nilFunc, 1, false, 8, []⟩
theorem ty139 : ∃ d, TY Try.prog 139 d (.nilFunc) 1 8 ∧ kindOf d = .other ∧ aggD d = false := ⟨_, ⟨Try.underlying139, by kernel_rfl⟩, rfl, rfl⟩
theorem tk139 : TIok Try.prog 139 ti139 := ⟨ty139, by kernel_rfl, .inl rfl⟩
def ti140 : TI := ⟨.other, .nilFunc, 1, false, 8, []⟩
theorem ty140 : ∃ d, TY Try.prog 140 d (.nilFunc) 1 8 ∧ kindOf d = .other ∧ aggD d = false := ⟨_, ⟨Try.underlying140, by kernel_rfl⟩, rfl, rfl⟩
theorem tk140 : TIok Try.prog 140 ti140 := ⟨ty140, by kernel_rfl, .inl rfl⟩
def ti141 : TI := ⟨.other, .nilFunc, 1, false, 8, []⟩
theorem ty141 : ∃ d, TY Try.prog 141 d (.nilFunc) 1 8 ∧ kindOf d = .other ∧ aggD d = false := ⟨_, ⟨Try.underlying141, by kernel_rfl⟩, rfl, rfl⟩
theorem tk141 : TIok Try.prog 141 ti141 := ⟨ty141, by kernel_rfl, .inl rfl⟩
def ti142 : TI := ⟨.other, .nilFunc, 1, false, 8, []⟩
theorem ty142 : ∃ d, TY Try.prog 142 d (.nilFunc) 1 8 ∧ kindOf d = .other ∧ aggD d = false := ⟨_, ⟨Try.underlying142, by kernel_rfl⟩, rfl, rfl⟩
theorem tk142 : TIok Try.prog 142 ti142 := ⟨ty142, by kernel_rfl, .inl rfl⟩
def ti143 : TI := ⟨.other, .nilFunc, 1, false, 8, []⟩
theorem ty143 : ∃ d, TY Try.prog 143 d (.nilFunc) 1 8 ∧ kindOf d = .other ∧ aggD d = false := ⟨_, ⟨Try.underlying143, by kernel_rfl⟩, rfl, rfl⟩
theorem tk143 : TIok Try.prog 143 ti143 := ⟨ty143, by kernel_rfl, .inl rfl⟩
def ti144 : TI := ⟨.other, .nilFunc, 1, false, 8, []⟩
theorem ty144 : ∃ d, TY Try.prog 144 d (.nilFunc) 1 8 ∧ kindOf d = .other ∧ aggD d = false := ⟨_, ⟨Try.underlying144, by kernel_rfl⟩, rfl, rfl⟩
theorem tk144 : TIok Try.prog 144 ti144 := ⟨ty144, by kernel_rfl, .inl rfl⟩
def ti145 : TI := ⟨.other, .nilFunc, 1, false, 8, []⟩
theorem ty145 : ∃ d, TY Try.prog 145 d (.nilFunc) 1 8 ∧ kindOf d = .other ∧ aggD d = false := ⟨_, ⟨Try.underlying145, by kernel_rfl⟩, rfl, rfl⟩
theorem tk145 : TIok Try.prog 145 ti145 := ⟨ty145, by kernel_rfl, .inl rfl⟩
def ti146 : TI := ⟨.other, .nilFunc, 1, false, 8, []⟩
theorem ty146 : ∃ d, TY Try.prog 146 d (.nilFunc) 1 8 ∧ kindOf d = .other ∧ aggD d = false := ⟨_, ⟨Try.underlying146, by kernel_rfl⟩, rfl, rfl⟩
theorem tk146 : TIok Try.prog 146 ti146 := ⟨ty146, by kernel_rfl, .inl rfl⟩
def ti147 : TI := ⟨.other, .nilFunc, 1, false, 8, []⟩
theorem ty147 : ∃ d, TY Try.prog 147 d (.nilFunc) 1 8 ∧ kindOf d = .other ∧ aggD d = false := ⟨_, ⟨Try.underlying147, by kernel_rfl⟩, rfl, rfl⟩
theorem tk147 : TIok Try.prog 147 ti147 := ⟨ty147, by kernel_rfl, .inl rfl⟩
def ti148 : TI := ⟨.other, .nilFunc, 1, false, 8, []⟩
theorem ty148 : ∃ d, TY Try.prog 148 d (.nilFunc) 1 8 ∧ kindOf d = .other ∧ aggD d = false := ⟨_, ⟨Try.underlying148, by kernel_rfl⟩, rfl, rfl⟩
theorem tk148 : TIok Try.prog 148 ti148 := ⟨ty148, by kernel_rfl, .inl rfl⟩
def ti149 : TI := ⟨.other, .nilFunc, 1, false, 8, []⟩
theorem ty149 : ∃ d, TY Try.prog 149 d (.nilFunc) 1 8 ∧ kindOf d = .other ∧ aggD d = false := ⟨_, ⟨Try.underlying149, by kernel_rfl⟩, rfl, rfl⟩
theorem tk149 : TIok Try.prog 149 ti149 := ⟨ty149, by kernel_rfl, .inl rfl⟩
def ti150 : TI := ⟨.other, .nilFunc, 1, false, 8, []⟩
theorem ty150 : ∃ d, TY Try.prog 150 d (.nilFunc) 1 8 ∧ kindOf d = .other ∧ aggD d = false := ⟨_, ⟨Try.underlying150, by kernel_rfl⟩, rfl, rfl⟩
theorem tk150 : TIok Try.prog 150 ti150 := ⟨ty150, by kernel_rfl, .inl rfl⟩
def ti151 : TI := ⟨.other, .nilFunc, 1, false, 8, []⟩
theorem ty151 : ∃ d, TY Try.prog 151 d (.nilFunc) 1 8 ∧ kindOf d = .other ∧ aggD d = false := ⟨_, ⟨Try.underlying151, by kernel_rfl⟩, rfl, rfl⟩
theorem tk151 : TIok Try.prog 151 ti151 := ⟨ty151, by kernel_rfl, .inl rfl⟩
def ti152 : TI := ⟨.other, .nilFunc, 1, false, 8, []⟩
theorem ty152 : ∃ d, TY Try.prog 152 d (.nilFunc) 1 8 ∧ kindOf d = .other ∧ aggD d = false := ⟨_, ⟨Try.underlying152, by kernel_rfl⟩, rfl, rfl⟩
theorem tk152 : TIok Try.prog 152 ti152 := ⟨ty152, by kernel_rfl, .inl rfl⟩
def ti153 : TI := ⟨.other, .nilFunc, 1, false, 8, []⟩
theorem ty153 : ∃ d, TY Try.prog 153 d (.nilFunc) 1 8 ∧ kindOf d = .other ∧ aggD d = false := ⟨_, ⟨Try.underlying153, by kernel_rfl⟩, rfl, rfl⟩
theorem tk153 : TIok Try.prog 153 ti153 := ⟨ty153, by kernel_rfl, .inl rfl⟩
def ti154 : TI := ⟨.other, .nilFunc, 1, false, 8, []⟩
theorem ty154 : ∃ d, TY Try.prog 154 d (.nilFunc) 1 8 ∧ kindOf d = .other ∧ aggD d = false := ⟨_, ⟨Try.underlying154, by kernel_rfl⟩, rfl, rfl⟩
theorem tk154 : TIok Try.prog 154 ti154 := ⟨ty154, by kernel_rfl, .inl rfl⟩
def ti155 : TI := ⟨.other, .nilFunc, 1, false, 8, []⟩
theorem ty155 : ∃ d, TY Try.prog 155 d (.nilFunc) 1 8 ∧ kindOf d = .other ∧ aggD d = false := ⟨_, ⟨Try.underlying155, by kernel_rfl⟩, rfl, rfl⟩
theorem tk155 : TIok Try.prog 155 ti155 := ⟨ty155, by kernel_rfl, .inl rfl⟩
def ti156 : TI := ⟨.other, .nilFunc, 1, false, 8, []⟩
theorem ty156 : ∃ d, TY Try.prog 156 d (.nilFunc) 1 8 ∧ kindOf d = .other ∧ aggD d = false := ⟨_, ⟨Try.underlying156, by kernel_rfl⟩, rfl, rfl⟩
theorem tk156 : TIok Try.prog 156 ti156 := ⟨ty156, by kernel_rfl, .inl rfl⟩
def ti157 : TI := ⟨.other, .nilFunc, 1, false, 8, []⟩
theorem ty157 : ∃ d, TY Try.prog 157 d (.nilFunc) 1 8 ∧ kindOf d = .other ∧ aggD d = false := ⟨_, ⟨Try.underlying157, by kernel_rfl⟩, rfl, rfl⟩
theorem tk157 : TIok Try.prog 157 ti157 := ⟨ty157, by kernel_rfl, .inl rfl⟩
def ti158 : TI := ⟨.other, .pointer none, 1, false, 8, []⟩
theorem ty158 : ∃ d, TY Try.prog 158 d (.pointer none) 1 8 ∧ kindOf d = .other ∧ aggD d = false := ⟨_, ⟨Try.underlying158, by kernel_rfl⟩, rfl, rfl⟩
theorem tk158 : TIok Try.prog 158 ti158 := ⟨ty158, by kernel_rfl, .inl rfl⟩
def ti159 : TI := ⟨.other, .pointer none, 1, false, 8, []⟩
theorem ty159 : ∃ d, TY Try.prog 159 d (.pointer none) 1 8 ∧ kindOf d = .other ∧ aggD d = false := ⟨_, ⟨Try.underlying159, by kernel_rfl⟩, rfl, rfl⟩
theorem tk159 : TIok Try.prog 159 ti159 := ⟨ty159, by kernel_rfl, .inl rfl⟩
def ti160 : TI := ⟨.other, .nilFunc, 1, false, 8, []⟩
theorem ty160 : ∃ d, TY Try.prog 160 d (.nilFunc) 1 8 ∧ kindOf d = .other ∧ aggD d = false := ⟨_, ⟨Try.underlying160, by kernel_rfl⟩, rfl, rfl⟩
theorem tk160 : TIok Try.prog 160 ti160 := ⟨ty160, by kernel_rfl, .inl rfl⟩
def ti161 : TI := ⟨.other, .nilFunc, 1, false, 8, []⟩
theorem ty161 : ∃ d, TY Try.prog 161 d (.nilFunc) 1 8 ∧ kindOf d = .other ∧ aggD d = false := ⟨_, ⟨Try.underlying161, by kernel_rfl⟩, rfl, rfl⟩
theorem tk161 : TIok Try.prog 161 ti161 := ⟨ty161, by kernel_rfl, .inl rfl⟩
def ti162 : TI := ⟨.int .u64, .int .u64 0, 1, false, 8, []⟩
theorem ty162 : ∃ d, TY Try.prog 162 d (.int .u64 0) 1 8 ∧ kindOf d = .int .u64 ∧ aggD d = false := ⟨_, ⟨Try.underlying162, by kernel_rfl⟩, rfl, rfl⟩
theorem tk162 : TIok Try.prog 162 ti162 := ⟨ty162, by kernel_rfl, .inl rfl⟩
def ti163 : TI := ⟨.other, .nilFunc, 1, false, 8, []⟩
theorem ty163 : ∃ d, TY Try.prog 163 d (.nilFunc) 1 8 ∧ kindOf d = .other ∧ aggD d = false := ⟨_, ⟨Try.underlying163, by kernel_rfl⟩, rfl, rfl⟩
theorem tk163 : TIok Try.prog 163 ti163 := ⟨ty163, by kernel_rfl, .inl rfl⟩
def ti169 : TI := ⟨.other, .nilFunc, 1, false, 8, []⟩
theorem ty169 : ∃ d, TY Try.prog 169 d (.nilFunc) 1 8 ∧ kindOf d = .other ∧ aggD d = false := ⟨_, ⟨Try.underlying169, by kernel_rfl⟩, rfl, rfl⟩
theorem tk169 : TIok Try.prog 169 ti169 := ⟨ty169, by kernel_rfl, .inl rfl⟩
def ti170 : TI := ⟨.int .u32, .int .u32 0, 1, false, 4, []⟩
theorem ty170 : ∃ d, TY Try.prog 170 d (.int .u32 0) 1 4 ∧ kindOf d = .int .u32 ∧ aggD d = false := ⟨_, ⟨Try.underlying170, by kernel_rfl⟩, rfl, rfl⟩
theorem tk170 : TIok Try.prog 170 ti170 := ⟨ty170, by kernel_rfl, .inl rfl⟩
def ti171 : TI := ⟨.int .u8, .int .u8 0, 1, false, 1, []⟩
theorem ty171 : ∃ d, TY Try.prog 171 d (.int .u8 0) 1 1 ∧ kindOf d = .int .u8 ∧ aggD d = false := ⟨_, ⟨Try.underlying171, by kernel_rfl⟩, rfl, rfl⟩
theorem tk171 : TIok Try.prog 171 ti171 := ⟨ty171, by kernel_rfl, .inl rfl⟩
def ti172 : TI := ⟨.int .u8, .int .u8 0, 1, false, 1, []⟩
theorem ty172 : ∃ d, TY Try.prog 172 d (.int .u8 0) 1 1 ∧ kindOf d = .int .u8 ∧ aggD d = false := ⟨_, ⟨Try.underlying172, by kernel_rfl⟩, rfl, rfl⟩
theorem tk172 : TIok Try.prog 172 ti172 := ⟨ty172, by kernel_rfl, .inl rfl⟩
def ti173 : TI := ⟨.other, .nilFunc, 1, false, 8, []⟩
theorem ty173 : ∃ d, TY Try.prog 173 d (.nilFunc) 1 8 ∧ kindOf d = .other ∧ aggD d = false := ⟨_, ⟨Try.underlying173, by kernel_rfl⟩, rfl, rfl⟩
theorem tk173 : TIok Try.prog 173 ti173 := ⟨ty173, by kernel_rfl, .inl rfl⟩
def ti174 : TI := ⟨.other, .pointer none, 1, false, 8, []⟩
theorem ty174 : ∃ d, TY Try.prog 174 d (.pointer none) 1 8 ∧ kindOf d = .other ∧ aggD d = false := ⟨_, ⟨Try.underlying174, by kernel_rfl⟩, rfl, rfl⟩
theorem tk174 : TIok Try.prog 174 ti174 := ⟨ty174, by kernel_rfl, .inl rfl⟩
def ti175 : TI := ⟨.int .i32, .int .i32 0, 1, false, 4, []⟩
theorem ty175 : ∃ d, TY Try.prog 175 d (.int .i32 0) 1 4 ∧ kindOf d = .int .i32 ∧ aggD d = false := ⟨_, ⟨Try.underlying175, by kernel_rfl⟩, rfl, rfl⟩
theorem tk175 : TIok Try.prog 175 ti175 := ⟨ty175, by kernel_rfl, .inl rfl⟩
def ti176 : TI := ⟨.int .i32, .int .i32 0, 1, false, 4, []⟩
theorem ty176 : ∃ d, TY Try.prog 176 d (.int .i32 0) 1 4 ∧ kindOf d = .int .i32 ∧ aggD d = false := ⟨_, ⟨Try.underlying176, by kernel_rfl⟩, rfl, rfl⟩
theorem tk176 : TIok Try.prog 176 ti176 := ⟨ty176, by kernel_rfl, .inl rfl⟩
def ti179 : TI := ⟨.other, .nilFunc, 1, false, 8, []⟩
theorem ty179 : ∃ d, TY Try.prog 179 d (.nilFunc) 1 8 ∧ kindOf d = .other ∧ aggD d = false := ⟨_, ⟨Try.underlying179, by kernel_rfl⟩, rfl, rfl⟩
theorem tk179 : TIok Try.prog 179 ti179 := ⟨ty179, by kernel_rfl, .inl rfl⟩
def ti180 : TI := ⟨.other, .nilFunc, 1, false, 8, []⟩
theorem ty180 : ∃ d, TY Try.prog 180 d (.nilFunc) 1 8 ∧ kindOf d = .other ∧ aggD d = false := ⟨_, ⟨Try.underlying180, by kernel_rfl⟩, rfl, rfl⟩
theorem tk180 : TIok Try.prog 180 ti180 := ⟨ty180, by kernel_rfl, .inl rfl⟩
def types : BT := (.node (.node (.node (.node (.node (.node (.node (.node .nil 2 ti2 .nil) 3 ti3 .nil) 4 ti4 (.node (.node .nil 5 ti5 .nil) 6 ti6 .nil)) 7 ti7 (.node (.node (.node .nil 8 ti8 .nil) 9 ti9 .nil) 10 ti10 (.node .nil 11 ti11 .nil))) 12 ti12 (.node (.node (.node (.node .nil 15 ti15 .nil) 16 ti16 .nil) 17 ti17 (.node .nil 21 ti21 .nil)) 22 ti22 (.node (.node (.node .nil 23 ti23 .nil) 24 ti24 .nil) 25 ti25 (.node .nil 26 ti26 .nil)))) 28 ti28 (.node (.node (.node (.node (.node .nil 29 ti29 .nil) 30 ti30 .nil) 31 ti31 (.node (.node .nil 32 ti32 .nil) 33 ti33 .nil)) 34 ti34 (.node (.node (.node .nil 35 ti35 .nil) 36 ti36 .nil) 37 ti37 (.node .nil 39 ti39 .nil))) 40 ti40 (.node (.node (.node (.node .nil 41 ti41 .nil) 42 ti42 .nil) 43 ti43 (.node .nil 44 ti44 .nil)) 45 ti45 (.node (.node (.node .nil 46 ti46 .nil) 47 ti47 .nil) 48 ti48 (.node .nil 49 ti49 .nil))))) 50 ti50 (.node (.node (.node (.node (.node (.node .nil 51 ti51 .nil) 52 ti52 .nil) 53 ti53 (.node (.node .nil 54 ti54 .nil) 56 ti56 .nil)) 57 ti57 (.node (.node (.node .nil 58 ti58 .nil) 59 ti59 .nil) 60 ti60 (.node .nil 61 ti61 .nil))) 62 ti62 (.node (.node (.node (.node .nil 63 ti63 .nil) 64 ti64 .nil) 65 ti65 (.node .nil 66 ti66 .nil)) 67 ti67 (.node (.node (.node .nil 68 ti68 .nil) 69 ti69 .nil) 70 ti70 (.node .nil 71 ti71 .nil)))) 72 ti72 (.node (.node (.node (.node (.node .nil 73 ti73 .nil) 74 ti74 .nil) 75 ti75 (.node .nil 76 ti76 .nil)) 77 ti77 (.node (.node (.node .nil 78 ti78 .nil) 79 ti79 .nil) 80 ti80 (.node .nil 81 ti81 .nil))) 82 ti82 (.node (.node (.node (.node .nil 83 ti83 .nil) 84 ti84 .nil) 85 ti85 (.node .nil 86 ti86 .nil)) 87 ti87 (.node (.node (.node .nil 88 ti88 .nil) 89 ti89 .nil) 90 ti90 (.node .nil 91 ti91 .nil)))))) 92 ti92 (.node (.node (.node (.node (.node (.node (.node .nil 93 ti93 .nil) 94 ti94 .nil) 95 ti95 (.node (.node .nil 96 ti96 .nil) 97 ti97 .nil)) 98 ti98 (.node (.node (.node .nil 99 ti99 .nil) 100 ti100 .nil) 101 ti101 (.node .nil 102 ti102 .nil))) 103 ti103 (.node (.node (.node (.node .nil 104 ti104 .nil) 105 ti105 .nil) 106 ti106 (.node .nil 107 ti107 .nil)) 108 ti108 (.node (.node (.node .nil 109 ti109 .nil) 110 ti110 .nil) 111 ti111 (.node .nil 112 ti112 .nil)))) 113 ti113 (.node (.node (.node (.node (.node .nil 114 ti114 .nil) 115 ti115 .nil) 116 ti116 (.node .nil 117 ti117 .nil)) 118 ti118 (.node (.node (.node .nil 119 ti119 .nil) 120 ti120 .nil) 121 ti121 (.node .nil 122 ti122 .nil))) 123 ti123 (.node (.node (.node (.node .nil 124 ti124 .nil) 125 ti125 .nil) 126 ti126 (.node .nil 127 ti127 .nil)) 128 ti128 (.node (.node (.node .nil 129 ti129 .nil) 130 ti130 .nil) 131 ti131 (.node .nil 132 ti132 .nil))))) 133 ti133 (.node (.node (.node (.node (.node (.node .nil 134 ti134 .nil) 135 ti135 .nil) 136 ti136 (.node (.node .nil 137 ti137 .nil) 138 ti138 .nil)) 139 ti139 (.node (.node (.node .nil 140 ti140 .nil) 141 ti141 .nil) 142 ti142 (.node .nil 143 ti143 .nil))) 144 ti144 (.node (.node (.node (.node .nil 145 ti145 .nil) 146 ti146 .nil) 147 ti147 (.node .nil 148 ti148 .nil)) 149 ti149 (.node (.node (.node .nil 150 ti150 .nil) 151 ti151 .nil) 152 ti152 (.node .nil 153 ti153 .nil)))) 154 ti154 (.node (.node (.node (.node (.node .nil 155 ti155 .nil) 156 ti156 .nil) 157 ti157 (.node .nil 158 ti158 .nil)) 159 ti159 (.node (.node (.node .nil 160 ti160 .nil) 161 ti161 .nil) 162 ti162 (.node .nil 163 ti163 .nil))) 169 ti169 (.node (.node (.node (.node .nil 170 ti170 .nil) 171 ti171 .nil) 172 ti172 (.node .nil 173 ti173 .nil)) 174 ti174 (.node (.node (.node .nil 175 ti175 .nil) 176 ti176 .nil) 179 ti179 (.node .nil 180 ti180 .nil)))))))
def tab : Tab Try.prog := types.tab ⟨⟨⟨⟨⟨⟨⟨⟨trivial, tk2, trivial⟩, tk3, trivial⟩, tk4, ⟨⟨trivial, tk5, trivial⟩, tk6, trivial⟩⟩, tk7, ⟨⟨⟨trivial, tk8, trivial⟩, tk9, trivial⟩, tk10, ⟨trivial, tk11, trivial⟩⟩⟩, tk12, ⟨⟨⟨⟨trivial, tk15, trivial⟩, tk16, trivial⟩, tk17, ⟨trivial, tk21, trivial⟩⟩, tk22, ⟨⟨⟨trivial, tk23, trivial⟩, tk24, trivial⟩, tk25, ⟨trivial, tk26, trivial⟩⟩⟩⟩, tk28, ⟨⟨⟨⟨⟨trivial, tk29, trivial⟩, tk30, trivial⟩, tk31, ⟨⟨trivial, tk32, trivial⟩, tk33, trivial⟩⟩, tk34, ⟨⟨⟨trivial, tk35, trivial⟩, tk36, trivial⟩, tk37, ⟨trivial, tk39, trivial⟩⟩⟩, tk40, ⟨⟨⟨⟨trivial, tk41, trivial⟩, tk42, trivial⟩, tk43, ⟨trivial, tk44, trivial⟩⟩, tk45, ⟨⟨⟨trivial, tk46, trivial⟩, tk47, trivial⟩, tk48, ⟨trivial, tk49, trivial⟩⟩⟩⟩⟩, tk50, ⟨⟨⟨⟨⟨⟨trivial, tk51, trivial⟩, tk52, trivial⟩, tk53, ⟨⟨trivial, tk54, trivial⟩, tk56, trivial⟩⟩, tk57, ⟨⟨⟨trivial, tk58, trivial⟩, tk59, trivial⟩, tk60, ⟨trivial, tk61, trivial⟩⟩⟩, tk62, ⟨⟨⟨⟨trivial, tk63, trivial⟩, tk64, trivial⟩, tk65, ⟨trivial, tk66, trivial⟩⟩, tk67, ⟨⟨⟨trivial, tk68, trivial⟩, tk69, trivial⟩, tk70, ⟨trivial, tk71, trivial⟩⟩⟩⟩, tk72, ⟨⟨⟨⟨⟨trivial, tk73, trivial⟩, tk74, trivial⟩, tk75, ⟨trivial, tk76, trivial⟩⟩, tk77, ⟨⟨⟨trivial, tk78, trivial⟩, tk79, trivial⟩, tk80, ⟨trivial, tk81, trivial⟩⟩⟩, tk82, ⟨⟨⟨⟨trivial, tk83, trivial⟩, tk84, trivial⟩, tk85, ⟨trivial, tk86, trivial⟩⟩, tk87, ⟨⟨⟨trivial, tk88, trivial⟩, tk89, trivial⟩, tk90, ⟨trivial, tk91, trivial⟩⟩⟩⟩⟩⟩, tk92, ⟨⟨⟨⟨⟨⟨⟨trivial, tk93, trivial⟩, tk94, trivial⟩, tk95, ⟨⟨trivial, tk96, trivial⟩, tk97, trivial⟩⟩, tk98, ⟨⟨⟨trivial, tk99, trivial⟩, tk100, trivial⟩, tk101, ⟨trivial, tk102, trivial⟩⟩⟩, tk103, ⟨⟨⟨⟨trivial, tk104, trivial⟩, tk105, trivial⟩, tk106, ⟨trivial, tk107, trivial⟩⟩, tk108, ⟨⟨⟨trivial, tk109, trivial⟩, tk110, trivial⟩, tk111, ⟨trivial, tk112, trivial⟩⟩⟩⟩, tk113, ⟨⟨⟨⟨⟨trivial, tk114, trivial⟩, tk115, trivial⟩, tk116, ⟨trivial, tk117, trivial⟩⟩, tk118, ⟨⟨⟨trivial, tk119, trivial⟩, tk120, trivial⟩, tk121, ⟨trivial, tk122, trivial⟩⟩⟩, tk123, ⟨⟨⟨⟨trivial, tk124, trivial⟩, tk125, trivial⟩, tk126, ⟨trivial, tk127, trivial⟩⟩, tk128, ⟨⟨⟨trivial, tk129, trivial⟩, tk130, trivial⟩, tk131, ⟨trivial, tk132, trivial⟩⟩⟩⟩⟩, tk133, ⟨⟨⟨⟨⟨⟨trivial, tk134, trivial⟩, tk135, trivial⟩, tk136, ⟨⟨trivial, tk137, trivial⟩, tk138, trivial⟩⟩, tk139, ⟨⟨⟨trivial, tk140, trivial⟩, tk141, trivial⟩, tk142, ⟨trivial, tk143, trivial⟩⟩⟩, tk144, ⟨⟨⟨⟨trivial, tk145, trivial⟩, tk146, trivial⟩, tk147, ⟨trivial, tk148, trivial⟩⟩, tk149, ⟨⟨⟨trivial, tk150, trivial⟩, tk151, trivial⟩, tk152, ⟨trivial, tk153, trivial⟩⟩⟩⟩, tk154, ⟨⟨⟨⟨⟨trivial, tk155, trivial⟩, tk156, trivial⟩, tk157, ⟨trivial, tk158, trivial⟩⟩, tk159, ⟨⟨⟨trivial, tk160, trivial⟩, tk161, trivial⟩, tk162, ⟨trivial, tk163, trivial⟩⟩⟩, tk169, ⟨⟨⟨⟨trivial, tk170, trivial⟩, tk171, trivial⟩, tk172, ⟨trivial, tk173, trivial⟩⟩, tk174, ⟨⟨⟨trivial, tk175, trivial⟩, tk176, trivial⟩, tk179, ⟨trivial, tk180, trivial⟩⟩⟩⟩⟩⟩⟩
end Go.Proofs.Ythholadaflfpcaa
