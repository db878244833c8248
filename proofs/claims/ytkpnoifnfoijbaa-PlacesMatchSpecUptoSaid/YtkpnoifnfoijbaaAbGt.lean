/- A part of the proof of the law: it holds for all states of the abstract kind told in the first of these texts; no condition besides those its statements name. -/
import Derived.Test.YtkpnoifnfoijbaaAbA21
import Derived.Test.YtkpnoifnfoijbaaProg
namespace Go.Proofs.Ab.Try
open Go Go.Proofs.Ab
def ttL0 : List (Nat × TI) := [
  (2, .ik .i64 8),
  (3, .ik .i64 8),
  (4, .bl),
  (5, .ik .u8 1),
  (6, .ik .u8 1),
  (7, .st 4 24 [(0, 2), (1, 3), (2, 4), (3, 6)] [(Go.Value.int Go.IntKind.i64 0), (Go.Value.int Go.IntKind.i64 0), (Go.Value.bool false), (Go.Value.int Go.IntKind.u8 0)]),
  (8, .st 4 24 [(0, 2), (1, 3), (2, 4), (3, 6)] [(Go.Value.int Go.IntKind.i64 0), (Go.Value.int Go.IntKind.i64 0), (Go.Value.bool false), (Go.Value.int Go.IntKind.u8 0)]),
  (9, .str),
  (10, .str),
  (11, .str),
  (12, .ik .u64 8),
  (13, .st 2 24 [(0, 9), (1, 12)] [(.string ⟨#[]⟩), (Go.Value.int Go.IntKind.u64 0)])]
def ttL1 : List (Nat × TI) := [
  (14, .st 2 24 [(0, 9), (1, 12)] [(.string ⟨#[]⟩), (Go.Value.int Go.IntKind.u64 0)]),
  (15, .sc 8 (Go.Value.pointer none)),
  (16, .sc 8 (Go.Value.pointer none)),
  (17, .sc 8 (Go.Value.pointer none)),
  (18, .st 1 8 [(0, 17)] [(Go.Value.pointer none)]),
  (19, .st 1 8 [(0, 17)] [(Go.Value.pointer none)]),
  (21, .ik .i32 4),
  (22, .sl 55),
  (23, .st 1 24 [(0, 22)] [(Go.Value.slice none 0 0)]),
  (24, .st 1 24 [(0, 22)] [(Go.Value.slice none 0 0)]),
  (25, .sl 3),
  (26, .ik .i64 8)]
def ttL2 : List (Nat × TI) := [
  (35, .sl 100),
  (36, .sl 25),
  (45, .st 2 48 [(0, 36), (1, 25)] [(Go.Value.slice none 0 0), (Go.Value.slice none 0 0)]),
  (46, .st 2 48 [(0, 36), (1, 25)] [(Go.Value.slice none 0 0), (Go.Value.slice none 0 0)]),
  (50, .sl 79),
  (51, .sl 9),
  (52, .sl 86),
  (53, .sl 84),
  (54, .st 9 160 [(0, 3), (1, 3), (2, 3), (3, 9), (4, 50), (5, 51), (6, 25), (7, 52), (8, 53)] [(Go.Value.int Go.IntKind.i64 0), (Go.Value.int Go.IntKind.i64 0), (Go.Value.int Go.IntKind.i64 0), (.string ⟨#[]⟩), (Go.Value.slice none 0 0), (Go.Value.slice none 0 0), (Go.Value.slice none 0 0), (Go.Value.slice none 0 0), (Go.Value.slice none 0 0)]),
  (55, .st 9 160 [(0, 3), (1, 3), (2, 3), (3, 9), (4, 50), (5, 51), (6, 25), (7, 52), (8, 53)] [(Go.Value.int Go.IntKind.i64 0), (Go.Value.int Go.IntKind.i64 0), (Go.Value.int Go.IntKind.i64 0), (.string ⟨#[]⟩), (Go.Value.slice none 0 0), (Go.Value.slice none 0 0), (Go.Value.slice none 0 0), (Go.Value.slice none 0 0), (Go.Value.slice none 0 0)]),
  (58, .sc 8 (Go.Value.pointer none)),
  (61, .sl 126)]
def ttL3 : List (Nat × TI) := [
  (62, .sl 61),
  (63, .st 4 96 [(0, 35), (1, 24), (2, 25), (3, 62)] [(Go.Value.slice none 0 0), (Go.Value.slice none 0 0), (Go.Value.slice none 0 0), (Go.Value.slice none 0 0)]),
  (64, .st 4 96 [(0, 35), (1, 24), (2, 25), (3, 62)] [(Go.Value.slice none 0 0), (Go.Value.slice none 0 0), (Go.Value.slice none 0 0), (Go.Value.slice none 0 0)]),
  (77, .sl 95),
  (78, .st 1 24 [(0, 77)] [(Go.Value.slice none 0 0)]),
  (79, .st 1 24 [(0, 77)] [(Go.Value.slice none 0 0)]),
  (83, .st 3 32 [(0, 3), (1, 3), (2, 9)] [(Go.Value.int Go.IntKind.i64 0), (Go.Value.int Go.IntKind.i64 0), (.string ⟨#[]⟩)]),
  (84, .st 3 32 [(0, 3), (1, 3), (2, 9)] [(Go.Value.int Go.IntKind.i64 0), (Go.Value.int Go.IntKind.i64 0), (.string ⟨#[]⟩)]),
  (85, .st 3 16 [(0, 3), (1, 4), (2, 4)] [(Go.Value.int Go.IntKind.i64 0), (Go.Value.bool false), (Go.Value.bool false)]),
  (86, .st 3 16 [(0, 3), (1, 4), (2, 4)] [(Go.Value.int Go.IntKind.i64 0), (Go.Value.bool false), (Go.Value.bool false)]),
  (92, .st 3 32 [(0, 3), (1, 3), (2, 9)] [(Go.Value.int Go.IntKind.i64 0), (Go.Value.int Go.IntKind.i64 0), (.string ⟨#[]⟩)]),
  (93, .st 3 32 [(0, 3), (1, 3), (2, 9)] [(Go.Value.int Go.IntKind.i64 0), (Go.Value.int Go.IntKind.i64 0), (.string ⟨#[]⟩)])]
def ttL4 : List (Nat × TI) := [
  (94, .st 5 48 [(0, 3), (1, 3), (2, 93)] [(Go.Value.int Go.IntKind.i64 0), (Go.Value.int Go.IntKind.i64 0), (Go.Value.int Go.IntKind.i64 0), (Go.Value.int Go.IntKind.i64 0), (.string ⟨#[]⟩)]),
  (95, .st 5 48 [(0, 3), (1, 3), (2, 93)] [(Go.Value.int Go.IntKind.i64 0), (Go.Value.int Go.IntKind.i64 0), (Go.Value.int Go.IntKind.i64 0), (Go.Value.int Go.IntKind.i64 0), (.string ⟨#[]⟩)]),
  (96, .sl 113),
  (97, .st 2 48 [(0, 61), (1, 96)] [(Go.Value.slice none 0 0), (Go.Value.slice none 0 0)]),
  (98, .st 2 48 [(0, 61), (1, 96)] [(Go.Value.slice none 0 0), (Go.Value.slice none 0 0)]),
  (99, .st 3 64 [(0, 9), (1, 98)] [(.string ⟨#[]⟩), (Go.Value.slice none 0 0), (Go.Value.slice none 0 0)]),
  (100, .st 3 64 [(0, 9), (1, 98)] [(.string ⟨#[]⟩), (Go.Value.slice none 0 0), (Go.Value.slice none 0 0)]),
  (109, .ik .u64 8),
  (111, .sl 93),
  (112, .st 1 24 [(0, 111)] [(Go.Value.slice none 0 0)]),
  (113, .st 1 24 [(0, 111)] [(Go.Value.slice none 0 0)]),
  (125, .st 2 24 [(0, 9), (1, 3)] [(.string ⟨#[]⟩), (Go.Value.int Go.IntKind.i64 0)])]
def ttL5 : List (Nat × TI) := [
  (126, .st 2 24 [(0, 9), (1, 3)] [(.string ⟨#[]⟩), (Go.Value.int Go.IntKind.i64 0)]),
  (128, .ik .i64 8),
  (137, .ik .u32 4),
  (139, .ik .u64 8),
  (152, .sl 26),
  (153, .ik .u64 8),
  (157, .sc 8 (Go.Value.pointer none)),
  (166, .sc 8 (Go.Value.pointer none)),
  (172, .st 4 40 [(0, 17), (1, 17), (2, 17), (3, 9)] [(Go.Value.pointer none), (Go.Value.pointer none), (Go.Value.pointer none), (.string ⟨#[]⟩)]),
  (173, .st 4 40 [(0, 17), (1, 17), (2, 17), (3, 9)] [(Go.Value.pointer none), (Go.Value.pointer none), (Go.Value.pointer none), (.string ⟨#[]⟩)]),
  (175, .st 0 0 [(0, 174)] []),
  (176, .st 0 0 [(0, 174)] [])]
def ttL6 : List (Nat × TI) := [
  (178, .ik .u8 1),
  (179, .ik .u8 1),
  (181, .sc 8 (Go.Value.pointer none)),
  (182, .ik .i32 4),
  (183, .ik .i32 4),
  (184, .st 11 48 [(0, 12), (1, 12), (2, 137), (3, 178), (4, 5), (5, 5), (6, 179), (7, 180), (8, 181), (9, 182), (10, 183)] [(Go.Value.int Go.IntKind.u64 0), (Go.Value.int Go.IntKind.u64 0), (Go.Value.int Go.IntKind.u32 0), (Go.Value.int Go.IntKind.u8 0), (Go.Value.int Go.IntKind.u8 0), (Go.Value.int Go.IntKind.u8 0), (Go.Value.int Go.IntKind.u8 0), Go.Value.nilFunc, (Go.Value.pointer none), (Go.Value.int Go.IntKind.i32 0), (Go.Value.int Go.IntKind.i32 0)]),
  (185, .st 11 48 [(0, 12), (1, 12), (2, 137), (3, 178), (4, 5), (5, 5), (6, 179), (7, 180), (8, 181), (9, 182), (10, 183)] [(Go.Value.int Go.IntKind.u64 0), (Go.Value.int Go.IntKind.u64 0), (Go.Value.int Go.IntKind.u32 0), (Go.Value.int Go.IntKind.u8 0), (Go.Value.int Go.IntKind.u8 0), (Go.Value.int Go.IntKind.u8 0), (Go.Value.int Go.IntKind.u8 0), Go.Value.nilFunc, (Go.Value.pointer none), (Go.Value.int Go.IntKind.i32 0), (Go.Value.int Go.IntKind.i32 0)])]
def ttL : List (Nat × TI) := ttL0 ++ ttL1 ++ ttL2 ++ ttL3 ++ ttL4 ++ ttL5 ++ ttL6
def tt (t : TypeId) : Option TI := lk ttL t
theorem tk2 : Tok Try.prog 2 (.ik .i64 8) := ⟨by kernel_rfl, Try.underlying2⟩
@[simp] theorem tt2 : tt 2 = some (.ik .i64 8) := by kernel_rfl
theorem tk3 : Tok Try.prog 3 (.ik .i64 8) := ⟨by kernel_rfl, Try.underlying3⟩
@[simp] theorem tt3 : tt 3 = some (.ik .i64 8) := by kernel_rfl
theorem tk4 : Tok Try.prog 4 (.bl) := ⟨by kernel_rfl, Try.underlying4⟩
@[simp] theorem tt4 : tt 4 = some (.bl) := by kernel_rfl
theorem tk5 : Tok Try.prog 5 (.ik .u8 1) := ⟨by kernel_rfl, Try.underlying5⟩
@[simp] theorem tt5 : tt 5 = some (.ik .u8 1) := by kernel_rfl
theorem tk6 : Tok Try.prog 6 (.ik .u8 1) := ⟨by kernel_rfl, Try.underlying6⟩
@[simp] theorem tt6 : tt 6 = some (.ik .u8 1) := by kernel_rfl
theorem tk7 : Tok Try.prog 7 (.st 4 24 [(0, 2), (1, 3), (2, 4), (3, 6)] [(Go.Value.int Go.IntKind.i64 0), (Go.Value.int Go.IntKind.i64 0), (Go.Value.bool false), (Go.Value.int Go.IntKind.u8 0)]) := ⟨by kernel_rfl, by kernel_rfl, by kernel_rfl, _, Try.underlying7, by kernel_rfl⟩
@[simp] theorem tt7 : tt 7 = some (.st 4 24 [(0, 2), (1, 3), (2, 4), (3, 6)] [(Go.Value.int Go.IntKind.i64 0), (Go.Value.int Go.IntKind.i64 0), (Go.Value.bool false), (Go.Value.int Go.IntKind.u8 0)]) := by kernel_rfl
theorem tk8 : Tok Try.prog 8 (.st 4 24 [(0, 2), (1, 3), (2, 4), (3, 6)] [(Go.Value.int Go.IntKind.i64 0), (Go.Value.int Go.IntKind.i64 0), (Go.Value.bool false), (Go.Value.int Go.IntKind.u8 0)]) := ⟨by kernel_rfl, by kernel_rfl, by kernel_rfl, _, Try.underlying8, by kernel_rfl⟩
@[simp] theorem tt8 : tt 8 = some (.st 4 24 [(0, 2), (1, 3), (2, 4), (3, 6)] [(Go.Value.int Go.IntKind.i64 0), (Go.Value.int Go.IntKind.i64 0), (Go.Value.bool false), (Go.Value.int Go.IntKind.u8 0)]) := by kernel_rfl
theorem tk9 : Tok Try.prog 9 (.str) := ⟨by kernel_rfl, Try.underlying9⟩
@[simp] theorem tt9 : tt 9 = some (.str) := by kernel_rfl
theorem tk10 : Tok Try.prog 10 (.str) := ⟨by kernel_rfl, Try.underlying10⟩
@[simp] theorem tt10 : tt 10 = some (.str) := by kernel_rfl
theorem tk11 : Tok Try.prog 11 (.str) := ⟨by kernel_rfl, Try.underlying11⟩
@[simp] theorem tt11 : tt 11 = some (.str) := by kernel_rfl
theorem tk12 : Tok Try.prog 12 (.ik .u64 8) := ⟨by kernel_rfl, Try.underlying12⟩
@[simp] theorem tt12 : tt 12 = some (.ik .u64 8) := by kernel_rfl
theorem tk13 : Tok Try.prog 13 (.st 2 24 [(0, 9), (1, 12)] [(.string ⟨#[]⟩), (Go.Value.int Go.IntKind.u64 0)]) := ⟨by kernel_rfl, by kernel_rfl, by kernel_rfl, _, Try.underlying13, by kernel_rfl⟩
@[simp] theorem tt13 : tt 13 = some (.st 2 24 [(0, 9), (1, 12)] [(.string ⟨#[]⟩), (Go.Value.int Go.IntKind.u64 0)]) := by kernel_rfl
theorem tk14 : Tok Try.prog 14 (.st 2 24 [(0, 9), (1, 12)] [(.string ⟨#[]⟩), (Go.Value.int Go.IntKind.u64 0)]) := ⟨by kernel_rfl, by kernel_rfl, by kernel_rfl, _, Try.underlying14, by kernel_rfl⟩
@[simp] theorem tt14 : tt 14 = some (.st 2 24 [(0, 9), (1, 12)] [(.string ⟨#[]⟩), (Go.Value.int Go.IntKind.u64 0)]) := by kernel_rfl
theorem tk15 : Tok Try.prog 15 (.sc 8 (Go.Value.pointer none)) := ⟨by kernel_rfl, by kernel_rfl, _, Try.underlying15, by kernel_rfl⟩
@[simp] theorem tt15 : tt 15 = some (.sc 8 (Go.Value.pointer none)) := by kernel_rfl
theorem tk16 : Tok Try.prog 16 (.sc 8 (Go.Value.pointer none)) := ⟨by kernel_rfl, by kernel_rfl, _, Try.underlying16, by kernel_rfl⟩
@[simp] theorem tt16 : tt 16 = some (.sc 8 (Go.Value.pointer none)) := by kernel_rfl
theorem tk17 : Tok Try.prog 17 (.sc 8 (Go.Value.pointer none)) := ⟨by kernel_rfl, by kernel_rfl, _, Try.underlying17, by kernel_rfl⟩
@[simp] theorem tt17 : tt 17 = some (.sc 8 (Go.Value.pointer none)) := by kernel_rfl
theorem tk18 : Tok Try.prog 18 (.st 1 8 [(0, 17)] [(Go.Value.pointer none)]) := ⟨by kernel_rfl, by kernel_rfl, by kernel_rfl, _, Try.underlying18, by kernel_rfl⟩
@[simp] theorem tt18 : tt 18 = some (.st 1 8 [(0, 17)] [(Go.Value.pointer none)]) := by kernel_rfl
theorem tk19 : Tok Try.prog 19 (.st 1 8 [(0, 17)] [(Go.Value.pointer none)]) := ⟨by kernel_rfl, by kernel_rfl, by kernel_rfl, _, Try.underlying19, by kernel_rfl⟩
@[simp] theorem tt19 : tt 19 = some (.st 1 8 [(0, 17)] [(Go.Value.pointer none)]) := by kernel_rfl
theorem tk21 : Tok Try.prog 21 (.ik .i32 4) := ⟨by kernel_rfl, Try.underlying21⟩
@[simp] theorem tt21 : tt 21 = some (.ik .i32 4) := by kernel_rfl
theorem tk22 : Tok Try.prog 22 (.sl 55) := ⟨by kernel_rfl, Try.underlying22⟩
@[simp] theorem tt22 : tt 22 = some (.sl 55) := by kernel_rfl
theorem tk23 : Tok Try.prog 23 (.st 1 24 [(0, 22)] [(Go.Value.slice none 0 0)]) := ⟨by kernel_rfl, by kernel_rfl, by kernel_rfl, _, Try.underlying23, by kernel_rfl⟩
@[simp] theorem tt23 : tt 23 = some (.st 1 24 [(0, 22)] [(Go.Value.slice none 0 0)]) := by kernel_rfl
theorem tk24 : Tok Try.prog 24 (.st 1 24 [(0, 22)] [(Go.Value.slice none 0 0)]) := ⟨by kernel_rfl, by kernel_rfl, by kernel_rfl, _, Try.underlying24, by kernel_rfl⟩
@[simp] theorem tt24 : tt 24 = some (.st 1 24 [(0, 22)] [(Go.Value.slice none 0 0)]) := by kernel_rfl
theorem tk25 : Tok Try.prog 25 (.sl 3) := ⟨by kernel_rfl, Try.underlying25⟩
@[simp] theorem tt25 : tt 25 = some (.sl 3) := by kernel_rfl
theorem tk26 : Tok Try.prog 26 (.ik .i64 8) := ⟨by kernel_rfl, Try.underlying26⟩
@[simp] theorem tt26 : tt 26 = some (.ik .i64 8) := by kernel_rfl
theorem tk35 : Tok Try.prog 35 (.sl 100) := ⟨by kernel_rfl, Try.underlying35⟩
@[simp] theorem tt35 : tt 35 = some (.sl 100) := by kernel_rfl
theorem tk36 : Tok Try.prog 36 (.sl 25) := ⟨by kernel_rfl, Try.underlying36⟩
@[simp] theorem tt36 : tt 36 = some (.sl 25) := by kernel_rfl
theorem tk45 : Tok Try.prog 45 (.st 2 48 [(0, 36), (1, 25)] [(Go.Value.slice none 0 0), (Go.Value.slice none 0 0)]) := ⟨by kernel_rfl, by kernel_rfl, by kernel_rfl, _, Try.underlying45, by kernel_rfl⟩
@[simp] theorem tt45 : tt 45 = some (.st 2 48 [(0, 36), (1, 25)] [(Go.Value.slice none 0 0), (Go.Value.slice none 0 0)]) := by kernel_rfl
theorem tk46 : Tok Try.prog 46 (.st 2 48 [(0, 36), (1, 25)] [(Go.Value.slice none 0 0), (Go.Value.slice none 0 0)]) := ⟨by kernel_rfl, by kernel_rfl, by kernel_rfl, _, Try.underlying46, by kernel_rfl⟩
@[simp] theorem tt46 : tt 46 = some (.st 2 48 [(0, 36), (1, 25)] [(Go.Value.slice none 0 0), (Go.Value.slice none 0 0)]) := by kernel_rfl
theorem tk50 : Tok Try.prog 50 (.sl 79) := ⟨by kernel_rfl, Try.underlying50⟩
@[simp] theorem tt50 : tt 50 = some (.sl 79) := by kernel_rfl
theorem tk51 : Tok Try.prog 51 (.sl 9) := ⟨by kernel_rfl, Try.underlying51⟩
@[simp] theorem tt51 : tt 51 = some (.sl 9) := by kernel_rfl
theorem tk52 : Tok Try.prog 52 (.sl 86) := ⟨by kernel_rfl, Try.underlying52⟩
@[simp] theorem tt52 : tt 52 = some (.sl 86) := by kernel_rfl
theorem tk53 : Tok Try.prog 53 (.sl 84) := ⟨by kernel_rfl, Try.underlying53⟩
@[simp] theorem tt53 : tt 53 = some (.sl 84) := by kernel_rfl
theorem tk54 : Tok Try.prog 54 (.st 9 160 [(0, 3), (1, 3), (2, 3), (3, 9), (4, 50), (5, 51), (6, 25), (7, 52), (8, 53)] [(Go.Value.int Go.IntKind.i64 0), (Go.Value.int Go.IntKind.i64 0), (Go.Value.int Go.IntKind.i64 0), (.string ⟨#[]⟩), (Go.Value.slice none 0 0), (Go.Value.slice none 0 0), (Go.Value.slice none 0 0), (Go.Value.slice none 0 0), (Go.Value.slice none 0 0)]) := ⟨by kernel_rfl, by kernel_rfl, by kernel_rfl, _, Try.underlying54, by kernel_rfl⟩
@[simp] theorem tt54 : tt 54 = some (.st 9 160 [(0, 3), (1, 3), (2, 3), (3, 9), (4, 50), (5, 51), (6, 25), (7, 52), (8, 53)] [(Go.Value.int Go.IntKind.i64 0), (Go.Value.int Go.IntKind.i64 0), (Go.Value.int Go.IntKind.i64 0), (.string ⟨#[]⟩), (Go.Value.slice none 0 0), (Go.Value.slice none 0 0), (Go.Value.slice none 0 0), (Go.Value.slice none 0 0), (Go.Value.slice none 0 0)]) := by kernel_rfl
theorem tk55 : Tok Try.prog 55 (.st 9 160 [(0, 3), (1, 3), (2, 3), (3, 9), (4, 50), (5, 51), (6, 25), (7, 52), (8, 53)] [(Go.Value.int Go.IntKind.i64 0), (Go.Value.int Go.IntKind.i64 0), (Go.Value.int Go.IntKind.i64 0), (.string ⟨#[]⟩), (Go.Value.slice none 0 0), (Go.Value.slice none 0 0), (Go.Value.slice none 0 0), (Go.Value.slice none 0 0), (Go.Value.slice none 0 0)]) := ⟨by kernel_rfl, by kernel_rfl, by kernel_rfl, _, Try.underlying55, by kernel_rfl⟩
@[simp] theorem tt55 : tt 55 = some (.st 9 160 [(0, 3), (1, 3), (2, 3), (3, 9), (4, 50), (5, 51), (6, 25), (7, 52), (8, 53)] [(Go.Value.int Go.IntKind.i64 0), (Go.Value.int Go.IntKind.i64 0), (Go.Value.int Go.IntKind.i64 0), (.string ⟨#[]⟩), (Go.Value.slice none 0 0), (Go.Value.slice none 0 0), (Go.Value.slice none 0 0), (Go.Value.slice none 0 0), (Go.Value.slice none 0 0)]) := by kernel_rfl
theorem tk58 : Tok Try.prog 58 (.sc 8 (Go.Value.pointer none)) := ⟨by kernel_rfl, by kernel_rfl, _, Try.underlying58, by kernel_rfl⟩
@[simp] theorem tt58 : tt 58 = some (.sc 8 (Go.Value.pointer none)) := by kernel_rfl
theorem tk61 : Tok Try.prog 61 (.sl 126) := ⟨by kernel_rfl, Try.underlying61⟩
@[simp] theorem tt61 : tt 61 = some (.sl 126) := by kernel_rfl
theorem tk62 : Tok Try.prog 62 (.sl 61) := ⟨by kernel_rfl, Try.underlying62⟩
@[simp] theorem tt62 : tt 62 = some (.sl 61) := by kernel_rfl
theorem tk63 : Tok Try.prog 63 (.st 4 96 [(0, 35), (1, 24), (2, 25), (3, 62)] [(Go.Value.slice none 0 0), (Go.Value.slice none 0 0), (Go.Value.slice none 0 0), (Go.Value.slice none 0 0)]) := ⟨by kernel_rfl, by kernel_rfl, by kernel_rfl, _, Try.underlying63, by kernel_rfl⟩
@[simp] theorem tt63 : tt 63 = some (.st 4 96 [(0, 35), (1, 24), (2, 25), (3, 62)] [(Go.Value.slice none 0 0), (Go.Value.slice none 0 0), (Go.Value.slice none 0 0), (Go.Value.slice none 0 0)]) := by kernel_rfl
theorem tk64 : Tok Try.prog 64 (.st 4 96 [(0, 35), (1, 24), (2, 25), (3, 62)] [(Go.Value.slice none 0 0), (Go.Value.slice none 0 0), (Go.Value.slice none 0 0), (Go.Value.slice none 0 0)]) := ⟨by kernel_rfl, by kernel_rfl, by kernel_rfl, _, Try.underlying64, by kernel_rfl⟩
@[simp] theorem tt64 : tt 64 = some (.st 4 96 [(0, 35), (1, 24), (2, 25), (3, 62)] [(Go.Value.slice none 0 0), (Go.Value.slice none 0 0), (Go.Value.slice none 0 0), (Go.Value.slice none 0 0)]) := by kernel_rfl
theorem tk77 : Tok Try.prog 77 (.sl 95) := ⟨by kernel_rfl, Try.underlying77⟩
@[simp] theorem tt77 : tt 77 = some (.sl 95) := by kernel_rfl
theorem tk78 : Tok Try.prog 78 (.st 1 24 [(0, 77)] [(Go.Value.slice none 0 0)]) := ⟨by kernel_rfl, by kernel_rfl, by kernel_rfl, _, Try.underlying78, by kernel_rfl⟩
@[simp] theorem tt78 : tt 78 = some (.st 1 24 [(0, 77)] [(Go.Value.slice none 0 0)]) := by kernel_rfl
theorem tk79 : Tok Try.prog 79 (.st 1 24 [(0, 77)] [(Go.Value.slice none 0 0)]) := ⟨by kernel_rfl, by kernel_rfl, by kernel_rfl, _, Try.underlying79, by kernel_rfl⟩
@[simp] theorem tt79 : tt 79 = some (.st 1 24 [(0, 77)] [(Go.Value.slice none 0 0)]) := by kernel_rfl
theorem tk83 : Tok Try.prog 83 (.st 3 32 [(0, 3), (1, 3), (2, 9)] [(Go.Value.int Go.IntKind.i64 0), (Go.Value.int Go.IntKind.i64 0), (.string ⟨#[]⟩)]) := ⟨by kernel_rfl, by kernel_rfl, by kernel_rfl, _, Try.underlying83, by kernel_rfl⟩
@[simp] theorem tt83 : tt 83 = some (.st 3 32 [(0, 3), (1, 3), (2, 9)] [(Go.Value.int Go.IntKind.i64 0), (Go.Value.int Go.IntKind.i64 0), (.string ⟨#[]⟩)]) := by kernel_rfl
theorem tk84 : Tok Try.prog 84 (.st 3 32 [(0, 3), (1, 3), (2, 9)] [(Go.Value.int Go.IntKind.i64 0), (Go.Value.int Go.IntKind.i64 0), (.string ⟨#[]⟩)]) := ⟨by kernel_rfl, by kernel_rfl, by kernel_rfl, _, Try.underlying84, by kernel_rfl⟩
@[simp] theorem tt84 : tt 84 = some (.st 3 32 [(0, 3), (1, 3), (2, 9)] [(Go.Value.int Go.IntKind.i64 0), (Go.Value.int Go.IntKind.i64 0), (.string ⟨#[]⟩)]) := by kernel_rfl
theorem tk85 : Tok Try.prog 85 (.st 3 16 [(0, 3), (1, 4), (2, 4)] [(Go.Value.int Go.IntKind.i64 0), (Go.Value.bool false), (Go.Value.bool false)]) := ⟨by kernel_rfl, by kernel_rfl, by kernel_rfl, _, Try.underlying85, by kernel_rfl⟩
@[simp] theorem tt85 : tt 85 = some (.st 3 16 [(0, 3), (1, 4), (2, 4)] [(Go.Value.int Go.IntKind.i64 0), (Go.Value.bool false), (Go.Value.bool false)]) := by kernel_rfl
theorem tk86 : Tok Try.prog 86 (.st 3 16 [(0, 3), (1, 4), (2, 4)] [(Go.Value.int Go.IntKind.i64 0), (Go.Value.bool false), (Go.Value.bool false)]) := ⟨by kernel_rfl, by kernel_rfl, by kernel_rfl, _, Try.underlying86, by kernel_rfl⟩
@[simp] theorem tt86 : tt 86 = some (.st 3 16 [(0, 3), (1, 4), (2, 4)] [(Go.Value.int Go.IntKind.i64 0), (Go.Value.bool false), (Go.Value.bool false)]) := by kernel_rfl
theorem tk92 : Tok Try.prog 92 (.st 3 32 [(0, 3), (1, 3), (2, 9)] [(Go.Value.int Go.IntKind.i64 0), (Go.Value.int Go.IntKind.i64 0), (.string ⟨#[]⟩)]) := ⟨by kernel_rfl, by kernel_rfl, by kernel_rfl, _, Try.underlying92, by kernel_rfl⟩
@[simp] theorem tt92 : tt 92 = some (.st 3 32 [(0, 3), (1, 3), (2, 9)] [(Go.Value.int Go.IntKind.i64 0), (Go.Value.int Go.IntKind.i64 0), (.string ⟨#[]⟩)]) := by kernel_rfl
theorem tk93 : Tok Try.prog 93 (.st 3 32 [(0, 3), (1, 3), (2, 9)] [(Go.Value.int Go.IntKind.i64 0), (Go.Value.int Go.IntKind.i64 0), (.string ⟨#[]⟩)]) := ⟨by kernel_rfl, by kernel_rfl, by kernel_rfl, _, Try.underlying93, by kernel_rfl⟩
@[simp] theorem tt93 : tt 93 = some (.st 3 32 [(0, 3), (1, 3), (2, 9)] [(Go.Value.int Go.IntKind.i64 0), (Go.Value.int Go.IntKind.i64 0), (.string ⟨#[]⟩)]) := by kernel_rfl
theorem tk94 : Tok Try.prog 94 (.st 5 48 [(0, 3), (1, 3), (2, 93)] [(Go.Value.int Go.IntKind.i64 0), (Go.Value.int Go.IntKind.i64 0), (Go.Value.int Go.IntKind.i64 0), (Go.Value.int Go.IntKind.i64 0), (.string ⟨#[]⟩)]) := ⟨by kernel_rfl, by kernel_rfl, by kernel_rfl, _, Try.underlying94, by kernel_rfl⟩
@[simp] theorem tt94 : tt 94 = some (.st 5 48 [(0, 3), (1, 3), (2, 93)] [(Go.Value.int Go.IntKind.i64 0), (Go.Value.int Go.IntKind.i64 0), (Go.Value.int Go.IntKind.i64 0), (Go.Value.int Go.IntKind.i64 0), (.string ⟨#[]⟩)]) := by kernel_rfl
theorem tk95 : Tok Try.prog 95 (.st 5 48 [(0, 3), (1, 3), (2, 93)] [(Go.Value.int Go.IntKind.i64 0), (Go.Value.int Go.IntKind.i64 0), (Go.Value.int Go.IntKind.i64 0), (Go.Value.int Go.IntKind.i64 0), (.string ⟨#[]⟩)]) := ⟨by kernel_rfl, by kernel_rfl, by kernel_rfl, _, Try.underlying95, by kernel_rfl⟩
@[simp] theorem tt95 : tt 95 = some (.st 5 48 [(0, 3), (1, 3), (2, 93)] [(Go.Value.int Go.IntKind.i64 0), (Go.Value.int Go.IntKind.i64 0), (Go.Value.int Go.IntKind.i64 0), (Go.Value.int Go.IntKind.i64 0), (.string ⟨#[]⟩)]) := by kernel_rfl
theorem tk96 : Tok Try.prog 96 (.sl 113) := ⟨by kernel_rfl, Try.underlying96⟩
@[simp] theorem tt96 : tt 96 = some (.sl 113) := by kernel_rfl
theorem tk97 : Tok Try.prog 97 (.st 2 48 [(0, 61), (1, 96)] [(Go.Value.slice none 0 0), (Go.Value.slice none 0 0)]) := ⟨by kernel_rfl, by kernel_rfl, by kernel_rfl, _, Try.underlying97, by kernel_rfl⟩
@[simp] theorem tt97 : tt 97 = some (.st 2 48 [(0, 61), (1, 96)] [(Go.Value.slice none 0 0), (Go.Value.slice none 0 0)]) := by kernel_rfl
theorem tk98 : Tok Try.prog 98 (.st 2 48 [(0, 61), (1, 96)] [(Go.Value.slice none 0 0), (Go.Value.slice none 0 0)]) := ⟨by kernel_rfl, by kernel_rfl, by kernel_rfl, _, Try.underlying98, by kernel_rfl⟩
@[simp] theorem tt98 : tt 98 = some (.st 2 48 [(0, 61), (1, 96)] [(Go.Value.slice none 0 0), (Go.Value.slice none 0 0)]) := by kernel_rfl
theorem tk99 : Tok Try.prog 99 (.st 3 64 [(0, 9), (1, 98)] [(.string ⟨#[]⟩), (Go.Value.slice none 0 0), (Go.Value.slice none 0 0)]) := ⟨by kernel_rfl, by kernel_rfl, by kernel_rfl, _, Try.underlying99, by kernel_rfl⟩
@[simp] theorem tt99 : tt 99 = some (.st 3 64 [(0, 9), (1, 98)] [(.string ⟨#[]⟩), (Go.Value.slice none 0 0), (Go.Value.slice none 0 0)]) := by kernel_rfl
theorem tk100 : Tok Try.prog 100 (.st 3 64 [(0, 9), (1, 98)] [(.string ⟨#[]⟩), (Go.Value.slice none 0 0), (Go.Value.slice none 0 0)]) := ⟨by kernel_rfl, by kernel_rfl, by kernel_rfl, _, Try.underlying100, by kernel_rfl⟩
@[simp] theorem tt100 : tt 100 = some (.st 3 64 [(0, 9), (1, 98)] [(.string ⟨#[]⟩), (Go.Value.slice none 0 0), (Go.Value.slice none 0 0)]) := by kernel_rfl
theorem tk109 : Tok Try.prog 109 (.ik .u64 8) := ⟨by kernel_rfl, Try.underlying109⟩
@[simp] theorem tt109 : tt 109 = some (.ik .u64 8) := by kernel_rfl
theorem tk111 : Tok Try.prog 111 (.sl 93) := ⟨by kernel_rfl, Try.underlying111⟩
@[simp] theorem tt111 : tt 111 = some (.sl 93) := by kernel_rfl
theorem tk112 : Tok Try.prog 112 (.st 1 24 [(0, 111)] [(Go.Value.slice none 0 0)]) := ⟨by kernel_rfl, by kernel_rfl, by kernel_rfl, _, Try.underlying112, by kernel_rfl⟩
@[simp] theorem tt112 : tt 112 = some (.st 1 24 [(0, 111)] [(Go.Value.slice none 0 0)]) := by kernel_rfl
theorem tk113 : Tok Try.prog 113 (.st 1 24 [(0, 111)] [(Go.Value.slice none 0 0)]) := ⟨by kernel_rfl, by kernel_rfl, by kernel_rfl, _, Try.underlying113, by kernel_rfl⟩
@[simp] theorem tt113 : tt 113 = some (.st 1 24 [(0, 111)] [(Go.Value.slice none 0 0)]) := by kernel_rfl
theorem tk125 : Tok Try.prog 125 (.st 2 24 [(0, 9), (1, 3)] [(.string ⟨#[]⟩), (Go.Value.int Go.IntKind.i64 0)]) := ⟨by kernel_rfl, by kernel_rfl, by kernel_rfl, _, Try.underlying125, by kernel_rfl⟩
@[simp] theorem tt125 : tt 125 = some (.st 2 24 [(0, 9), (1, 3)] [(.string ⟨#[]⟩), (Go.Value.int Go.IntKind.i64 0)]) := by kernel_rfl
theorem tk126 : Tok Try.prog 126 (.st 2 24 [(0, 9), (1, 3)] [(.string ⟨#[]⟩), (Go.Value.int Go.IntKind.i64 0)]) := ⟨by kernel_rfl, by kernel_rfl, by kernel_rfl, _, Try.underlying126, by kernel_rfl⟩
@[simp] theorem tt126 : tt 126 = some (.st 2 24 [(0, 9), (1, 3)] [(.string ⟨#[]⟩), (Go.Value.int Go.IntKind.i64 0)]) := by kernel_rfl
theorem tk128 : Tok Try.prog 128 (.ik .i64 8) := ⟨by kernel_rfl, Try.underlying128⟩
@[simp] theorem tt128 : tt 128 = some (.ik .i64 8) := by kernel_rfl
theorem tk137 : Tok Try.prog 137 (.ik .u32 4) := ⟨by kernel_rfl, Try.underlying137⟩
@[simp] theorem tt137 : tt 137 = some (.ik .u32 4) := by kernel_rfl
theorem tk139 : Tok Try.prog 139 (.ik .u64 8) := ⟨by kernel_rfl, Try.underlying139⟩
@[simp] theorem tt139 : tt 139 = some (.ik .u64 8) := by kernel_rfl
theorem tk152 : Tok Try.prog 152 (.sl 26) := ⟨by kernel_rfl, Try.underlying152⟩
@[simp] theorem tt152 : tt 152 = some (.sl 26) := by kernel_rfl
theorem tk153 : Tok Try.prog 153 (.ik .u64 8) := ⟨by kernel_rfl, Try.underlying153⟩
@[simp] theorem tt153 : tt 153 = some (.ik .u64 8) := by kernel_rfl
theorem tk157 : Tok Try.prog 157 (.sc 8 (Go.Value.pointer none)) := ⟨by kernel_rfl, by kernel_rfl, _, Try.underlying157, by kernel_rfl⟩
@[simp] theorem tt157 : tt 157 = some (.sc 8 (Go.Value.pointer none)) := by kernel_rfl
theorem tk166 : Tok Try.prog 166 (.sc 8 (Go.Value.pointer none)) := ⟨by kernel_rfl, by kernel_rfl, _, Try.underlying166, by kernel_rfl⟩
@[simp] theorem tt166 : tt 166 = some (.sc 8 (Go.Value.pointer none)) := by kernel_rfl
theorem tk172 : Tok Try.prog 172 (.st 4 40 [(0, 17), (1, 17), (2, 17), (3, 9)] [(Go.Value.pointer none), (Go.Value.pointer none), (Go.Value.pointer none), (.string ⟨#[]⟩)]) := ⟨by kernel_rfl, by kernel_rfl, by kernel_rfl, _, Try.underlying172, by kernel_rfl⟩
@[simp] theorem tt172 : tt 172 = some (.st 4 40 [(0, 17), (1, 17), (2, 17), (3, 9)] [(Go.Value.pointer none), (Go.Value.pointer none), (Go.Value.pointer none), (.string ⟨#[]⟩)]) := by kernel_rfl
theorem tk173 : Tok Try.prog 173 (.st 4 40 [(0, 17), (1, 17), (2, 17), (3, 9)] [(Go.Value.pointer none), (Go.Value.pointer none), (Go.Value.pointer none), (.string ⟨#[]⟩)]) := ⟨by kernel_rfl, by kernel_rfl, by kernel_rfl, _, Try.underlying173, by kernel_rfl⟩
@[simp] theorem tt173 : tt 173 = some (.st 4 40 [(0, 17), (1, 17), (2, 17), (3, 9)] [(Go.Value.pointer none), (Go.Value.pointer none), (Go.Value.pointer none), (.string ⟨#[]⟩)]) := by kernel_rfl
theorem tk175 : Tok Try.prog 175 (.st 0 0 [(0, 174)] []) := ⟨by kernel_rfl, by kernel_rfl, by kernel_rfl, _, Try.underlying175, by kernel_rfl⟩
@[simp] theorem tt175 : tt 175 = some (.st 0 0 [(0, 174)] []) := by kernel_rfl
theorem tk176 : Tok Try.prog 176 (.st 0 0 [(0, 174)] []) := ⟨by kernel_rfl, by kernel_rfl, by kernel_rfl, _, Try.underlying176, by kernel_rfl⟩
@[simp] theorem tt176 : tt 176 = some (.st 0 0 [(0, 174)] []) := by kernel_rfl
theorem tk178 : Tok Try.prog 178 (.ik .u8 1) := ⟨by kernel_rfl, Try.underlying178⟩
@[simp] theorem tt178 : tt 178 = some (.ik .u8 1) := by kernel_rfl
theorem tk179 : Tok Try.prog 179 (.ik .u8 1) := ⟨by kernel_rfl, Try.underlying179⟩
@[simp] theorem tt179 : tt 179 = some (.ik .u8 1) := by kernel_rfl
theorem tk181 : Tok Try.prog 181 (.sc 8 (Go.Value.pointer none)) := ⟨by kernel_rfl, by kernel_rfl, _, Try.underlying181, by kernel_rfl⟩
@[simp] theorem tt181 : tt 181 = some (.sc 8 (Go.Value.pointer none)) := by kernel_rfl
theorem tk182 : Tok Try.prog 182 (.ik .i32 4) := ⟨by kernel_rfl, Try.underlying182⟩
@[simp] theorem tt182 : tt 182 = some (.ik .i32 4) := by kernel_rfl
theorem tk183 : Tok Try.prog 183 (.ik .i32 4) := ⟨by kernel_rfl, Try.underlying183⟩
@[simp] theorem tt183 : tt 183 = some (.ik .i32 4) := by kernel_rfl
theorem tk184 : Tok Try.prog 184 (.st 11 48 [(0, 12), (1, 12), (2, 137), (3, 178), (4, 5), (5, 5), (6, 179), (7, 180), (8, 181), (9, 182), (10, 183)] [(Go.Value.int Go.IntKind.u64 0), (Go.Value.int Go.IntKind.u64 0), (Go.Value.int Go.IntKind.u32 0), (Go.Value.int Go.IntKind.u8 0), (Go.Value.int Go.IntKind.u8 0), (Go.Value.int Go.IntKind.u8 0), (Go.Value.int Go.IntKind.u8 0), Go.Value.nilFunc, (Go.Value.pointer none), (Go.Value.int Go.IntKind.i32 0), (Go.Value.int Go.IntKind.i32 0)]) := ⟨by kernel_rfl, by kernel_rfl, by kernel_rfl, _, Try.underlying184, by kernel_rfl⟩
@[simp] theorem tt184 : tt 184 = some (.st 11 48 [(0, 12), (1, 12), (2, 137), (3, 178), (4, 5), (5, 5), (6, 179), (7, 180), (8, 181), (9, 182), (10, 183)] [(Go.Value.int Go.IntKind.u64 0), (Go.Value.int Go.IntKind.u64 0), (Go.Value.int Go.IntKind.u32 0), (Go.Value.int Go.IntKind.u8 0), (Go.Value.int Go.IntKind.u8 0), (Go.Value.int Go.IntKind.u8 0), (Go.Value.int Go.IntKind.u8 0), Go.Value.nilFunc, (Go.Value.pointer none), (Go.Value.int Go.IntKind.i32 0), (Go.Value.int Go.IntKind.i32 0)]) := by kernel_rfl
theorem tk185 : Tok Try.prog 185 (.st 11 48 [(0, 12), (1, 12), (2, 137), (3, 178), (4, 5), (5, 5), (6, 179), (7, 180), (8, 181), (9, 182), (10, 183)] [(Go.Value.int Go.IntKind.u64 0), (Go.Value.int Go.IntKind.u64 0), (Go.Value.int Go.IntKind.u32 0), (Go.Value.int Go.IntKind.u8 0), (Go.Value.int Go.IntKind.u8 0), (Go.Value.int Go.IntKind.u8 0), (Go.Value.int Go.IntKind.u8 0), Go.Value.nilFunc, (Go.Value.pointer none), (Go.Value.int Go.IntKind.i32 0), (Go.Value.int Go.IntKind.i32 0)]) := ⟨by kernel_rfl, by kernel_rfl, by kernel_rfl, _, Try.underlying185, by kernel_rfl⟩
@[simp] theorem tt185 : tt 185 = some (.st 11 48 [(0, 12), (1, 12), (2, 137), (3, 178), (4, 5), (5, 5), (6, 179), (7, 180), (8, 181), (9, 182), (10, 183)] [(Go.Value.int Go.IntKind.u64 0), (Go.Value.int Go.IntKind.u64 0), (Go.Value.int Go.IntKind.u32 0), (Go.Value.int Go.IntKind.u8 0), (Go.Value.int Go.IntKind.u8 0), (Go.Value.int Go.IntKind.u8 0), (Go.Value.int Go.IntKind.u8 0), Go.Value.nilFunc, (Go.Value.pointer none), (Go.Value.int Go.IntKind.i32 0), (Go.Value.int Go.IntKind.i32 0)]) := by kernel_rfl
theorem ttAll0 : ∀ p ∈ ttL0, Tok Try.prog p.1 p.2 := by
  unfold ttL0
  simp only [List.forall_mem_cons]
  exact ⟨tk2, tk3, tk4, tk5, tk6, tk7, tk8, tk9, tk10, tk11, tk12, tk13, fun _ h => by cases h⟩
theorem ttAll1 : ∀ p ∈ ttL1, Tok Try.prog p.1 p.2 := by
  unfold ttL1
  simp only [List.forall_mem_cons]
  exact ⟨tk14, tk15, tk16, tk17, tk18, tk19, tk21, tk22, tk23, tk24, tk25, tk26, fun _ h => by cases h⟩
theorem ttAll2 : ∀ p ∈ ttL2, Tok Try.prog p.1 p.2 := by
  unfold ttL2
  simp only [List.forall_mem_cons]
  exact ⟨tk35, tk36, tk45, tk46, tk50, tk51, tk52, tk53, tk54, tk55, tk58, tk61, fun _ h => by cases h⟩
theorem ttAll3 : ∀ p ∈ ttL3, Tok Try.prog p.1 p.2 := by
  unfold ttL3
  simp only [List.forall_mem_cons]
  exact ⟨tk62, tk63, tk64, tk77, tk78, tk79, tk83, tk84, tk85, tk86, tk92, tk93, fun _ h => by cases h⟩
theorem ttAll4 : ∀ p ∈ ttL4, Tok Try.prog p.1 p.2 := by
  unfold ttL4
  simp only [List.forall_mem_cons]
  exact ⟨tk94, tk95, tk96, tk97, tk98, tk99, tk100, tk109, tk111, tk112, tk113, tk125, fun _ h => by cases h⟩
theorem ttAll5 : ∀ p ∈ ttL5, Tok Try.prog p.1 p.2 := by
  unfold ttL5
  simp only [List.forall_mem_cons]
  exact ⟨tk126, tk128, tk137, tk139, tk152, tk153, tk157, tk166, tk172, tk173, tk175, tk176, fun _ h => by cases h⟩
theorem ttAll6 : ∀ p ∈ ttL6, Tok Try.prog p.1 p.2 := by
  unfold ttL6
  simp only [List.forall_mem_cons]
  exact ⟨tk178, tk179, tk181, tk182, tk183, tk184, tk185, fun _ h => by cases h⟩
theorem ttAll : ∀ p ∈ ttL, Tok Try.prog p.1 p.2 := by
  intro p h
  unfold ttL at h
  simp only [List.mem_append] at h
  rcases h with ((((((h | h) | h) | h) | h) | h) | h)
  · exact ttAll0 p h
  · exact ttAll1 p h
  · exact ttAll2 p h
  · exact ttAll3 p h
  · exact ttAll4 p h
  · exact ttAll5 p h
  · exact ttAll6 p h
theorem ttOK : TOK Try.prog tt := by
  intro t i h
  unfold tt at h
  exact ttAll (t, i) (lk_mem h)
end Go.Proofs.Ab.Try
