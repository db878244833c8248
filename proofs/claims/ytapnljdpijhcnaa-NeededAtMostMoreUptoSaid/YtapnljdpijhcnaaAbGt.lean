/- A part of the proof of the law: it holds for all states of the abstract kind told in the first of these texts; no condition besides those its statements name. -/
import Derived.Test.YtapnljdpijhcnaaAbM2
import Derived.Test.YtapnljdpijhcnaaProg
namespace Go.Proofs.Ab.Try
open Go Go.Proofs.Ab
def ttL0 : List (Nat × TI) := [
  (2, .ik .i64 8),
  (3, .ik .i64 8),
  (4, .bl),
  (5, .ik .u8 1),
  (6, .ik .u8 1),
  (7, .st 4 24 [(0, 2), (1, 3), (2, 4), (3, 6)] [(Go.Value.int Go.IntKind.i64 0), (Go.Value.int Go.IntKind.i64 0), (Go.Value.bool false), (Go.Value.int Go.IntKind.u8 0)]),
  (8, .st 4 24 [(0, 2), (1, 3), (2, 4), (3, 6)] [(Go.Value.int Go.IntKind.i64 0), (Go.Value.int Go.IntKind.i64 0), (Go.Value.bool false), (Go.Value.int Go.IntKind.u8 0)]),
  (9, .str),
  (10, .str),
  (11, .str),
  (12, .ik .u64 8),
  (13, .st 2 24 [(0, 9), (1, 12)] [(.string ⟨#[]⟩), (Go.Value.int Go.IntKind.u64 0)])]
def ttL1 : List (Nat × TI) := [
  (14, .st 2 24 [(0, 9), (1, 12)] [(.string ⟨#[]⟩), (Go.Value.int Go.IntKind.u64 0)]),
  (15, .sc 8 (Go.Value.pointer none)),
  (16, .sc 8 (Go.Value.pointer none)),
  (17, .sc 8 (Go.Value.pointer none)),
  (18, .st 1 8 [(0, 17)] [(Go.Value.pointer none)]),
  (19, .st 1 8 [(0, 17)] [(Go.Value.pointer none)]),
  (21, .ik .i32 4),
  (22, .sl 83),
  (23, .sl 56),
  (24, .st 1 24 [(0, 23)] [(Go.Value.slice none 0 0)]),
  (25, .st 1 24 [(0, 23)] [(Go.Value.slice none 0 0)]),
  (26, .sl 3)]
def ttL2 : List (Nat × TI) := [
  (27, .sl 26),
  (28, .ik .i64 8),
  (34, .sc 8 (Go.Value.pointer none)),
  (38, .sl 109),
  (39, .sl 38),
  (40, .st 4 96 [(0, 22), (1, 25), (2, 26), (3, 39)] [(Go.Value.slice none 0 0), (Go.Value.slice none 0 0), (Go.Value.slice none 0 0), (Go.Value.slice none 0 0)]),
  (41, .st 4 96 [(0, 22), (1, 25), (2, 26), (3, 39)] [(Go.Value.slice none 0 0), (Go.Value.slice none 0 0), (Go.Value.slice none 0 0), (Go.Value.slice none 0 0)]),
  (51, .sl 61),
  (52, .sl 9),
  (53, .sl 68),
  (54, .sl 66),
  (55, .st 9 160 [(0, 3), (1, 3), (2, 3), (3, 9), (4, 51), (5, 52), (6, 26), (7, 53), (8, 54)] [(Go.Value.int Go.IntKind.i64 0), (Go.Value.int Go.IntKind.i64 0), (Go.Value.int Go.IntKind.i64 0), (.string ⟨#[]⟩), (Go.Value.slice none 0 0), (Go.Value.slice none 0 0), (Go.Value.slice none 0 0), (Go.Value.slice none 0 0), (Go.Value.slice none 0 0)])]
def ttL3 : List (Nat × TI) := [
  (56, .st 9 160 [(0, 3), (1, 3), (2, 3), (3, 9), (4, 51), (5, 52), (6, 26), (7, 53), (8, 54)] [(Go.Value.int Go.IntKind.i64 0), (Go.Value.int Go.IntKind.i64 0), (Go.Value.int Go.IntKind.i64 0), (.string ⟨#[]⟩), (Go.Value.slice none 0 0), (Go.Value.slice none 0 0), (Go.Value.slice none 0 0), (Go.Value.slice none 0 0), (Go.Value.slice none 0 0)]),
  (59, .sl 78),
  (60, .st 1 24 [(0, 59)] [(Go.Value.slice none 0 0)]),
  (61, .st 1 24 [(0, 59)] [(Go.Value.slice none 0 0)]),
  (65, .st 3 32 [(0, 3), (1, 3), (2, 9)] [(Go.Value.int Go.IntKind.i64 0), (Go.Value.int Go.IntKind.i64 0), (.string ⟨#[]⟩)]),
  (66, .st 3 32 [(0, 3), (1, 3), (2, 9)] [(Go.Value.int Go.IntKind.i64 0), (Go.Value.int Go.IntKind.i64 0), (.string ⟨#[]⟩)]),
  (67, .st 3 16 [(0, 3), (1, 4), (2, 4)] [(Go.Value.int Go.IntKind.i64 0), (Go.Value.bool false), (Go.Value.bool false)]),
  (68, .st 3 16 [(0, 3), (1, 4), (2, 4)] [(Go.Value.int Go.IntKind.i64 0), (Go.Value.bool false), (Go.Value.bool false)]),
  (75, .st 3 32 [(0, 3), (1, 3), (2, 9)] [(Go.Value.int Go.IntKind.i64 0), (Go.Value.int Go.IntKind.i64 0), (.string ⟨#[]⟩)]),
  (76, .st 3 32 [(0, 3), (1, 3), (2, 9)] [(Go.Value.int Go.IntKind.i64 0), (Go.Value.int Go.IntKind.i64 0), (.string ⟨#[]⟩)]),
  (77, .st 5 48 [(0, 3), (1, 3), (2, 76)] [(Go.Value.int Go.IntKind.i64 0), (Go.Value.int Go.IntKind.i64 0), (Go.Value.int Go.IntKind.i64 0), (Go.Value.int Go.IntKind.i64 0), (.string ⟨#[]⟩)]),
  (78, .st 5 48 [(0, 3), (1, 3), (2, 76)] [(Go.Value.int Go.IntKind.i64 0), (Go.Value.int Go.IntKind.i64 0), (Go.Value.int Go.IntKind.i64 0), (Go.Value.int Go.IntKind.i64 0), (.string ⟨#[]⟩)])]
def ttL4 : List (Nat × TI) := [
  (79, .sl 96),
  (80, .st 2 48 [(0, 38), (1, 79)] [(Go.Value.slice none 0 0), (Go.Value.slice none 0 0)]),
  (81, .st 2 48 [(0, 38), (1, 79)] [(Go.Value.slice none 0 0), (Go.Value.slice none 0 0)]),
  (82, .st 3 64 [(0, 9), (1, 81)] [(.string ⟨#[]⟩), (Go.Value.slice none 0 0), (Go.Value.slice none 0 0)]),
  (83, .st 3 64 [(0, 9), (1, 81)] [(.string ⟨#[]⟩), (Go.Value.slice none 0 0), (Go.Value.slice none 0 0)]),
  (92, .ik .u64 8),
  (94, .sl 76),
  (95, .st 1 24 [(0, 94)] [(Go.Value.slice none 0 0)]),
  (96, .st 1 24 [(0, 94)] [(Go.Value.slice none 0 0)]),
  (108, .st 2 24 [(0, 9), (1, 3)] [(.string ⟨#[]⟩), (Go.Value.int Go.IntKind.i64 0)]),
  (109, .st 2 24 [(0, 9), (1, 3)] [(.string ⟨#[]⟩), (Go.Value.int Go.IntKind.i64 0)]),
  (111, .ik .i64 8)]
def ttL5 : List (Nat × TI) := [
  (120, .ik .u32 4),
  (122, .ik .u64 8),
  (135, .sl 28),
  (136, .ik .u64 8),
  (140, .sc 8 (Go.Value.pointer none)),
  (149, .sc 8 (Go.Value.pointer none)),
  (156, .st 4 40 [(0, 17), (1, 17), (2, 17), (3, 9)] [(Go.Value.pointer none), (Go.Value.pointer none), (Go.Value.pointer none), (.string ⟨#[]⟩)]),
  (157, .st 4 40 [(0, 17), (1, 17), (2, 17), (3, 9)] [(Go.Value.pointer none), (Go.Value.pointer none), (Go.Value.pointer none), (.string ⟨#[]⟩)]),
  (159, .st 0 0 [(0, 158)] []),
  (160, .st 0 0 [(0, 158)] []),
  (162, .ik .u8 1),
  (163, .ik .u8 1)]
def ttL6 : List (Nat × TI) := [
  (165, .sc 8 (Go.Value.pointer none)),
  (166, .ik .i32 4),
  (167, .ik .i32 4),
  (168, .st 11 48 [(0, 12), (1, 12), (2, 120), (3, 162), (4, 5), (5, 5), (6, 163), (7, 164), (8, 165), (9, 166), (10, 167)] [(Go.Value.int Go.IntKind.u64 0), (Go.Value.int Go.IntKind.u64 0), (Go.Value.int Go.IntKind.u32 0), (Go.Value.int Go.IntKind.u8 0), (Go.Value.int Go.IntKind.u8 0), (Go.Value.int Go.IntKind.u8 0), (Go.Value.int Go.IntKind.u8 0), Go.Value.nilFunc, (Go.Value.pointer none), (Go.Value.int Go.IntKind.i32 0), (Go.Value.int Go.IntKind.i32 0)]),
  (169, .st 11 48 [(0, 12), (1, 12), (2, 120), (3, 162), (4, 5), (5, 5), (6, 163), (7, 164), (8, 165), (9, 166), (10, 167)] [(Go.Value.int Go.IntKind.u64 0), (Go.Value.int Go.IntKind.u64 0), (Go.Value.int Go.IntKind.u32 0), (Go.Value.int Go.IntKind.u8 0), (Go.Value.int Go.IntKind.u8 0), (Go.Value.int Go.IntKind.u8 0), (Go.Value.int Go.IntKind.u8 0), Go.Value.nilFunc, (Go.Value.pointer none), (Go.Value.int Go.IntKind.i32 0), (Go.Value.int Go.IntKind.i32 0)])]
def ttL : List (Nat × TI) := ttL0 ++ ttL1 ++ ttL2 ++ ttL3 ++ ttL4 ++ ttL5 ++ ttL6
def tt (t : TypeId) : Option TI := lk ttL t
theorem tk2 : Tok Try.prog 2 (.ik .i64 8) := ⟨by kernel_rfl, Try.underlying2⟩
@[simp] theorem tt2 : tt 2 = some (.ik .i64 8) := by kernel_rfl
theorem tk3 : Tok Try.prog 3 (.ik .i64 8) := ⟨by kernel_rfl, Try.underlying3⟩
@[simp] theorem tt3 : tt 3 = some (.ik .i64 8) := by kernel_rfl
theorem tk4 : Tok Try.prog 4 (.bl) := ⟨by kernel_rfl, Try.underlying4⟩
@[simp] theorem tt4 : tt 4 = some (.bl) := by kernel_rfl
theorem tk5 : Tok Try.prog 5 (.ik .u8 1) := ⟨by kernel_rfl, Try.underlying5⟩
@[simp] theorem tt5 : tt 5 = some (.ik .u8 1) := by kernel_rfl
theorem tk6 : Tok Try.prog 6 (.ik .u8 1) := ⟨by kernel_rfl, Try.underlying6⟩
@[simp] theorem tt6 : tt 6 = some (.ik .u8 1) := by kernel_rfl
theorem tk7 : Tok Try.prog 7 (.st 4 24 [(0, 2), (1, 3), (2, 4), (3, 6)] [(Go.Value.int Go.IntKind.i64 0), (Go.Value.int Go.IntKind.i64 0), (Go.Value.bool false), (Go.Value.int Go.IntKind.u8 0)]) := ⟨by kernel_rfl, by kernel_rfl, by kernel_rfl, _, Try.underlying7, by kernel_rfl⟩
@[simp] theorem tt7 : tt 7 = some (.st 4 24 [(0, 2), (1, 3), (2, 4), (3, 6)] [(Go.Value.int Go.IntKind.i64 0), (Go.Value.int Go.IntKind.i64 0), (Go.Value.bool false), (Go.Value.int Go.IntKind.u8 0)]) := by kernel_rfl
theorem tk8 : Tok Try.prog 8 (.st 4 24 [(0, 2), (1, 3), (2, 4), (3, 6)] [(Go.Value.int Go.IntKind.i64 0), (Go.Value.int Go.IntKind.i64 0), (Go.Value.bool false), (Go.Value.int Go.IntKind.u8 0)]) := ⟨by kernel_rfl, by kernel_rfl, by kernel_rfl, _, Try.underlying8, by kernel_rfl⟩
@[simp] theorem tt8 : tt 8 = some (.st 4 24 [(0, 2), (1, 3), (2, 4), (3, 6)] [(Go.Value.int Go.IntKind.i64 0), (Go.Value.int Go.IntKind.i64 0), (Go.Value.bool false), (Go.Value.int Go.IntKind.u8 0)]) := by kernel_rfl
theorem tk9 : Tok Try.prog 9 (.str) := ⟨by kernel_rfl, Try.underlying9⟩
@[simp] theorem tt9 : tt 9 = some (.str) := by kernel_rfl
theorem tk10 : Tok Try.prog 10 (.str) := ⟨by kernel_rfl, Try.underlying10⟩
@[simp] theorem tt10 : tt 10 = some (.str) := by kernel_rfl
theorem tk11 : Tok Try.prog 11 (.str) := ⟨by kernel_rfl, Try.underlying11⟩
@[simp] theorem tt11 : tt 11 = some (.str) := by kernel_rfl
theorem tk12 : Tok Try.prog 12 (.ik .u64 8) := ⟨by kernel_rfl, Try.underlying12⟩
@[simp] theorem tt12 : tt 12 = some (.ik .u64 8) := by kernel_rfl
theorem tk13 : Tok Try.prog 13 (.st 2 24 [(0, 9), (1, 12)] [(.string ⟨#[]⟩), (Go.Value.int Go.IntKind.u64 0)]) := ⟨by kernel_rfl, by kernel_rfl, by kernel_rfl, _, Try.underlying13, by kernel_rfl⟩
@[simp] theorem tt13 : tt 13 = some (.st 2 24 [(0, 9), (1, 12)] [(.string ⟨#[]⟩), (Go.Value.int Go.IntKind.u64 0)]) := by kernel_rfl
theorem tk14 : Tok Try.prog 14 (.st 2 24 [(0, 9), (1, 12)] [(.string ⟨#[]⟩), (Go.Value.int Go.IntKind.u64 0)]) := ⟨by kernel_rfl, by kernel_rfl, by kernel_rfl, _, Try.underlying14, by kernel_rfl⟩
@[simp] theorem tt14 : tt 14 = some (.st 2 24 [(0, 9), (1, 12)] [(.string ⟨#[]⟩), (Go.Value.int Go.IntKind.u64 0)]) := by kernel_rfl
theorem tk15 : Tok Try.prog 15 (.sc 8 (Go.Value.pointer none)) := ⟨by kernel_rfl, by kernel_rfl, _, Try.underlying15, by kernel_rfl⟩
@[simp] theorem tt15 : tt 15 = some (.sc 8 (Go.Value.pointer none)) := by kernel_rfl
theorem tk16 : Tok Try.prog 16 (.sc 8 (Go.Value.pointer none)) := ⟨by kernel_rfl, by kernel_rfl, _, Try.underlying16, by kernel_rfl⟩
@[simp] theorem tt16 : tt 16 = some (.sc 8 (Go.Value.pointer none)) := by kernel_rfl
theorem tk17 : Tok Try.prog 17 (.sc 8 (Go.Value.pointer none)) := ⟨by kernel_rfl, by kernel_rfl, _, Try.underlying17, by kernel_rfl⟩
@[simp] theorem tt17 : tt 17 = some (.sc 8 (Go.Value.pointer none)) := by kernel_rfl
theorem tk18 : Tok Try.prog 18 (.st 1 8 [(0, 17)] [(Go.Value.pointer none)]) := ⟨by kernel_rfl, by kernel_rfl, by kernel_rfl, _, Try.underlying18, by kernel_rfl⟩
@[simp] theorem tt18 : tt 18 = some (.st 1 8 [(0, 17)] [(Go.Value.pointer none)]) := by kernel_rfl
theorem tk19 : Tok Try.prog 19 (.st 1 8 [(0, 17)] [(Go.Value.pointer none)]) := ⟨by kernel_rfl, by kernel_rfl, by kernel_rfl, _, Try.underlying19, by kernel_rfl⟩
@[simp] theorem tt19 : tt 19 = some (.st 1 8 [(0, 17)] [(Go.Value.pointer none)]) := by kernel_rfl
theorem tk21 : Tok Try.prog 21 (.ik .i32 4) := ⟨by kernel_rfl, Try.underlying21⟩
@[simp] theorem tt21 : tt 21 = some (.ik .i32 4) := by kernel_rfl
theorem tk22 : Tok Try.prog 22 (.sl 83) := ⟨by kernel_rfl, Try.underlying22⟩
@[simp] theorem tt22 : tt 22 = some (.sl 83) := by kernel_rfl
theorem tk23 : Tok Try.prog 23 (.sl 56) := ⟨by kernel_rfl, Try.underlying23⟩
@[simp] theorem tt23 : tt 23 = some (.sl 56) := by kernel_rfl
theorem tk24 : Tok Try.prog 24 (.st 1 24 [(0, 23)] [(Go.Value.slice none 0 0)]) := ⟨by kernel_rfl, by kernel_rfl, by kernel_rfl, _, Try.underlying24, by kernel_rfl⟩
@[simp] theorem tt24 : tt 24 = some (.st 1 24 [(0, 23)] [(Go.Value.slice none 0 0)]) := by kernel_rfl
theorem tk25 : Tok Try.prog 25 (.st 1 24 [(0, 23)] [(Go.Value.slice none 0 0)]) := ⟨by kernel_rfl, by kernel_rfl, by kernel_rfl, _, Try.underlying25, by kernel_rfl⟩
@[simp] theorem tt25 : tt 25 = some (.st 1 24 [(0, 23)] [(Go.Value.slice none 0 0)]) := by kernel_rfl
theorem tk26 : Tok Try.prog 26 (.sl 3) := ⟨by kernel_rfl, Try.underlying26⟩
@[simp] theorem tt26 : tt 26 = some (.sl 3) := by kernel_rfl
theorem tk27 : Tok Try.prog 27 (.sl 26) := ⟨by kernel_rfl, Try.underlying27⟩
@[simp] theorem tt27 : tt 27 = some (.sl 26) := by kernel_rfl
theorem tk28 : Tok Try.prog 28 (.ik .i64 8) := ⟨by kernel_rfl, Try.underlying28⟩
@[simp] theorem tt28 : tt 28 = some (.ik .i64 8) := by kernel_rfl
theorem tk34 : Tok Try.prog 34 (.sc 8 (Go.Value.pointer none)) := ⟨by kernel_rfl, by kernel_rfl, _, Try.underlying34, by kernel_rfl⟩
@[simp] theorem tt34 : tt 34 = some (.sc 8 (Go.Value.pointer none)) := by kernel_rfl
theorem tk38 : Tok Try.prog 38 (.sl 109) := ⟨by kernel_rfl, Try.underlying38⟩
@[simp] theorem tt38 : tt 38 = some (.sl 109) := by kernel_rfl
theorem tk39 : Tok Try.prog 39 (.sl 38) := ⟨by kernel_rfl, Try.underlying39⟩
@[simp] theorem tt39 : tt 39 = some (.sl 38) := by kernel_rfl
theorem tk40 : Tok Try.prog 40 (.st 4 96 [(0, 22), (1, 25), (2, 26), (3, 39)] [(Go.Value.slice none 0 0), (Go.Value.slice none 0 0), (Go.Value.slice none 0 0), (Go.Value.slice none 0 0)]) := ⟨by kernel_rfl, by kernel_rfl, by kernel_rfl, _, Try.underlying40, by kernel_rfl⟩
@[simp] theorem tt40 : tt 40 = some (.st 4 96 [(0, 22), (1, 25), (2, 26), (3, 39)] [(Go.Value.slice none 0 0), (Go.Value.slice none 0 0), (Go.Value.slice none 0 0), (Go.Value.slice none 0 0)]) := by kernel_rfl
theorem tk41 : Tok Try.prog 41 (.st 4 96 [(0, 22), (1, 25), (2, 26), (3, 39)] [(Go.Value.slice none 0 0), (Go.Value.slice none 0 0), (Go.Value.slice none 0 0), (Go.Value.slice none 0 0)]) := ⟨by kernel_rfl, by kernel_rfl, by kernel_rfl, _, Try.underlying41, by kernel_rfl⟩
@[simp] theorem tt41 : tt 41 = some (.st 4 96 [(0, 22), (1, 25), (2, 26), (3, 39)] [(Go.Value.slice none 0 0), (Go.Value.slice none 0 0), (Go.Value.slice none 0 0), (Go.Value.slice none 0 0)]) := by kernel_rfl
theorem tk51 : Tok Try.prog 51 (.sl 61) := ⟨by kernel_rfl, Try.underlying51⟩
@[simp] theorem tt51 : tt 51 = some (.sl 61) := by kernel_rfl
theorem tk52 : Tok Try.prog 52 (.sl 9) := ⟨by kernel_rfl, Try.underlying52⟩
@[simp] theorem tt52 : tt 52 = some (.sl 9) := by kernel_rfl
theorem tk53 : Tok Try.prog 53 (.sl 68) := ⟨by kernel_rfl, Try.underlying53⟩
@[simp] theorem tt53 : tt 53 = some (.sl 68) := by kernel_rfl
theorem tk54 : Tok Try.prog 54 (.sl 66) := ⟨by kernel_rfl, Try.underlying54⟩
@[simp] theorem tt54 : tt 54 = some (.sl 66) := by kernel_rfl
theorem tk55 : Tok Try.prog 55 (.st 9 160 [(0, 3), (1, 3), (2, 3), (3, 9), (4, 51), (5, 52), (6, 26), (7, 53), (8, 54)] [(Go.Value.int Go.IntKind.i64 0), (Go.Value.int Go.IntKind.i64 0), (Go.Value.int Go.IntKind.i64 0), (.string ⟨#[]⟩), (Go.Value.slice none 0 0), (Go.Value.slice none 0 0), (Go.Value.slice none 0 0), (Go.Value.slice none 0 0), (Go.Value.slice none 0 0)]) := ⟨by kernel_rfl, by kernel_rfl, by kernel_rfl, _, Try.underlying55, by kernel_rfl⟩
@[simp] theorem tt55 : tt 55 = some (.st 9 160 [(0, 3), (1, 3), (2, 3), (3, 9), (4, 51), (5, 52), (6, 26), (7, 53), (8, 54)] [(Go.Value.int Go.IntKind.i64 0), (Go.Value.int Go.IntKind.i64 0), (Go.Value.int Go.IntKind.i64 0), (.string ⟨#[]⟩), (Go.Value.slice none 0 0), (Go.Value.slice none 0 0), (Go.Value.slice none 0 0), (Go.Value.slice none 0 0), (Go.Value.slice none 0 0)]) := by kernel_rfl
theorem tk56 : Tok Try.prog 56 (.st 9 160 [(0, 3), (1, 3), (2, 3), (3, 9), (4, 51), (5, 52), (6, 26), (7, 53), (8, 54)] [(Go.Value.int Go.IntKind.i64 0), (Go.Value.int Go.IntKind.i64 0), (Go.Value.int Go.IntKind.i64 0), (.string ⟨#[]⟩), (Go.Value.slice none 0 0), (Go.Value.slice none 0 0), (Go.Value.slice none 0 0), (Go.Value.slice none 0 0), (Go.Value.slice none 0 0)]) := ⟨by kernel_rfl, by kernel_rfl, by kernel_rfl, _, Try.underlying56, by kernel_rfl⟩
@[simp] theorem tt56 : tt 56 = some (.st 9 160 [(0, 3), (1, 3), (2, 3), (3, 9), (4, 51), (5, 52), (6, 26), (7, 53), (8, 54)] [(Go.Value.int Go.IntKind.i64 0), (Go.Value.int Go.IntKind.i64 0), (Go.Value.int Go.IntKind.i64 0), (.string ⟨#[]⟩), (Go.Value.slice none 0 0), (Go.Value.slice none 0 0), (Go.Value.slice none 0 0), (Go.Value.slice none 0 0), (Go.Value.slice none 0 0)]) := by kernel_rfl
theorem tk59 : Tok Try.prog 59 (.sl 78) := ⟨by kernel_rfl, Try.underlying59⟩
@[simp] theorem tt59 : tt 59 = some (.sl 78) := by kernel_rfl
theorem tk60 : Tok Try.prog 60 (.st 1 24 [(0, 59)] [(Go.Value.slice none 0 0)]) := ⟨by kernel_rfl, by kernel_rfl, by kernel_rfl, _, Try.underlying60, by kernel_rfl⟩
@[simp] theorem tt60 : tt 60 = some (.st 1 24 [(0, 59)] [(Go.Value.slice none 0 0)]) := by kernel_rfl
theorem tk61 : Tok Try.prog 61 (.st 1 24 [(0, 59)] [(Go.Value.slice none 0 0)]) := ⟨by kernel_rfl, by kernel_rfl, by kernel_rfl, _, Try.underlying61, by kernel_rfl⟩
@[simp] theorem tt61 : tt 61 = some (.st 1 24 [(0, 59)] [(Go.Value.slice none 0 0)]) := by kernel_rfl
theorem tk65 : Tok Try.prog 65 (.st 3 32 [(0, 3), (1, 3), (2, 9)] [(Go.Value.int Go.IntKind.i64 0), (Go.Value.int Go.IntKind.i64 0), (.string ⟨#[]⟩)]) := ⟨by kernel_rfl, by kernel_rfl, by kernel_rfl, _, Try.underlying65, by kernel_rfl⟩
@[simp] theorem tt65 : tt 65 = some (.st 3 32 [(0, 3), (1, 3), (2, 9)] [(Go.Value.int Go.IntKind.i64 0), (Go.Value.int Go.IntKind.i64 0), (.string ⟨#[]⟩)]) := by kernel_rfl
theorem tk66 : Tok Try.prog 66 (.st 3 32 [(0, 3), (1, 3), (2, 9)] [(Go.Value.int Go.IntKind.i64 0), (Go.Value.int Go.IntKind.i64 0), (.string ⟨#[]⟩)]) := ⟨by kernel_rfl, by kernel_rfl, by kernel_rfl, _, Try.underlying66, by kernel_rfl⟩
@[simp] theorem tt66 : tt 66 = some (.st 3 32 [(0, 3), (1, 3), (2, 9)] [(Go.Value.int Go.IntKind.i64 0), (Go.Value.int Go.IntKind.i64 0), (.string ⟨#[]⟩)]) := by kernel_rfl
theorem tk67 : Tok Try.prog 67 (.st 3 16 [(0, 3), (1, 4), (2, 4)] [(Go.Value.int Go.IntKind.i64 0), (Go.Value.bool false), (Go.Value.bool false)]) := ⟨by kernel_rfl, by kernel_rfl, by kernel_rfl, _, Try.underlying67, by kernel_rfl⟩
@[simp] theorem tt67 : tt 67 = some (.st 3 16 [(0, 3), (1, 4), (2, 4)] [(Go.Value.int Go.IntKind.i64 0), (Go.Value.bool false), (Go.Value.bool false)]) := by kernel_rfl
theorem tk68 : Tok Try.prog 68 (.st 3 16 [(0, 3), (1, 4), (2, 4)] [(Go.Value.int Go.IntKind.i64 0), (Go.Value.bool false), (Go.Value.bool false)]) := ⟨by kernel_rfl, by kernel_rfl, by kernel_rfl, _, Try.underlying68, by kernel_rfl⟩
@[simp] theorem tt68 : tt 68 = some (.st 3 16 [(0, 3), (1, 4), (2, 4)] [(Go.Value.int Go.IntKind.i64 0), (Go.Value.bool false), (Go.Value.bool false)]) := by kernel_rfl
theorem tk75 : Tok Try.prog 75 (.st 3 32 [(0, 3), (1, 3), (2, 9)] [(Go.Value.int Go.IntKind.i64 0), (Go.Value.int Go.IntKind.i64 0), (.string ⟨#[]⟩)]) := ⟨by kernel_rfl, by kernel_rfl, by kernel_rfl, _, Try.underlying75, by kernel_rfl⟩
@[simp] theorem tt75 : tt 75 = some (.st 3 32 [(0, 3), (1, 3), (2, 9)] [(Go.Value.int Go.IntKind.i64 0), (Go.Value.int Go.IntKind.i64 0), (.string ⟨#[]⟩)]) := by kernel_rfl
theorem tk76 : Tok Try.prog 76 (.st 3 32 [(0, 3), (1, 3), (2, 9)] [(Go.Value.int Go.IntKind.i64 0), (Go.Value.int Go.IntKind.i64 0), (.string ⟨#[]⟩)]) := ⟨by kernel_rfl, by kernel_rfl, by kernel_rfl, _, Try.underlying76, by kernel_rfl⟩
@[simp] theorem tt76 : tt 76 = some (.st 3 32 [(0, 3), (1, 3), (2, 9)] [(Go.Value.int Go.IntKind.i64 0), (Go.Value.int Go.IntKind.i64 0), (.string ⟨#[]⟩)]) := by kernel_rfl
theorem tk77 : Tok Try.prog 77 (.st 5 48 [(0, 3), (1, 3), (2, 76)] [(Go.Value.int Go.IntKind.i64 0), (Go.Value.int Go.IntKind.i64 0), (Go.Value.int Go.IntKind.i64 0), (Go.Value.int Go.IntKind.i64 0), (.string ⟨#[]⟩)]) := ⟨by kernel_rfl, by kernel_rfl, by kernel_rfl, _, Try.underlying77, by kernel_rfl⟩
@[simp] theorem tt77 : tt 77 = some (.st 5 48 [(0, 3), (1, 3), (2, 76)] [(Go.Value.int Go.IntKind.i64 0), (Go.Value.int Go.IntKind.i64 0), (Go.Value.int Go.IntKind.i64 0), (Go.Value.int Go.IntKind.i64 0), (.string ⟨#[]⟩)]) := by kernel_rfl
theorem tk78 : Tok Try.prog 78 (.st 5 48 [(0, 3), (1, 3), (2, 76)] [(Go.Value.int Go.IntKind.i64 0), (Go.Value.int Go.IntKind.i64 0), (Go.Value.int Go.IntKind.i64 0), (Go.Value.int Go.IntKind.i64 0), (.string ⟨#[]⟩)]) := ⟨by kernel_rfl, by kernel_rfl, by kernel_rfl, _, Try.underlying78, by kernel_rfl⟩
@[simp] theorem tt78 : tt 78 = some (.st 5 48 [(0, 3), (1, 3), (2, 76)] [(Go.Value.int Go.IntKind.i64 0), (Go.Value.int Go.IntKind.i64 0), (Go.Value.int Go.IntKind.i64 0), (Go.Value.int Go.IntKind.i64 0), (.string ⟨#[]⟩)]) := by kernel_rfl
theorem tk79 : Tok Try.prog 79 (.sl 96) := ⟨by kernel_rfl, Try.underlying79⟩
@[simp] theorem tt79 : tt 79 = some (.sl 96) := by kernel_rfl
theorem tk80 : Tok Try.prog 80 (.st 2 48 [(0, 38), (1, 79)] [(Go.Value.slice none 0 0), (Go.Value.slice none 0 0)]) := ⟨by kernel_rfl, by kernel_rfl, by kernel_rfl, _, Try.underlying80, by kernel_rfl⟩
@[simp] theorem tt80 : tt 80 = some (.st 2 48 [(0, 38), (1, 79)] [(Go.Value.slice none 0 0), (Go.Value.slice none 0 0)]) := by kernel_rfl
theorem tk81 : Tok Try.prog 81 (.st 2 48 [(0, 38), (1, 79)] [(Go.Value.slice none 0 0), (Go.Value.slice none 0 0)]) := ⟨by kernel_rfl, by kernel_rfl, by kernel_rfl, _, Try.underlying81, by kernel_rfl⟩
@[simp] theorem tt81 : tt 81 = some (.st 2 48 [(0, 38), (1, 79)] [(Go.Value.slice none 0 0), (Go.Value.slice none 0 0)]) := by kernel_rfl
theorem tk82 : Tok Try.prog 82 (.st 3 64 [(0, 9), (1, 81)] [(.string ⟨#[]⟩), (Go.Value.slice none 0 0), (Go.Value.slice none 0 0)]) := ⟨by kernel_rfl, by kernel_rfl, by kernel_rfl, _, Try.underlying82, by kernel_rfl⟩
@[simp] theorem tt82 : tt 82 = some (.st 3 64 [(0, 9), (1, 81)] [(.string ⟨#[]⟩), (Go.Value.slice none 0 0), (Go.Value.slice none 0 0)]) := by kernel_rfl
theorem tk83 : Tok Try.prog 83 (.st 3 64 [(0, 9), (1, 81)] [(.string ⟨#[]⟩), (Go.Value.slice none 0 0), (Go.Value.slice none 0 0)]) := ⟨by kernel_rfl, by kernel_rfl, by kernel_rfl, _, Try.underlying83, by kernel_rfl⟩
@[simp] theorem tt83 : tt 83 = some (.st 3 64 [(0, 9), (1, 81)] [(.string ⟨#[]⟩), (Go.Value.slice none 0 0), (Go.Value.slice none 0 0)]) := by kernel_rfl
theorem tk92 : Tok Try.prog 92 (.ik .u64 8) := ⟨by kernel_rfl, Try.underlying92⟩
@[simp] theorem tt92 : tt 92 = some (.ik .u64 8) := by kernel_rfl
theorem tk94 : Tok Try.prog 94 (.sl 76) := ⟨by kernel_rfl, Try.underlying94⟩
@[simp] theorem tt94 : tt 94 = some (.sl 76) := by kernel_rfl
theorem tk95 : Tok Try.prog 95 (.st 1 24 [(0, 94)] [(Go.Value.slice none 0 0)]) := ⟨by kernel_rfl, by kernel_rfl, by kernel_rfl, _, Try.underlying95, by kernel_rfl⟩
@[simp] theorem tt95 : tt 95 = some (.st 1 24 [(0, 94)] [(Go.Value.slice none 0 0)]) := by kernel_rfl
theorem tk96 : Tok Try.prog 96 (.st 1 24 [(0, 94)] [(Go.Value.slice none 0 0)]) := ⟨by kernel_rfl, by kernel_rfl, by kernel_rfl, _, Try.underlying96, by kernel_rfl⟩
@[simp] theorem tt96 : tt 96 = some (.st 1 24 [(0, 94)] [(Go.Value.slice none 0 0)]) := by kernel_rfl
theorem tk108 : Tok Try.prog 108 (.st 2 24 [(0, 9), (1, 3)] [(.string ⟨#[]⟩), (Go.Value.int Go.IntKind.i64 0)]) := ⟨by kernel_rfl, by kernel_rfl, by kernel_rfl, _, Try.underlying108, by kernel_rfl⟩
@[simp] theorem tt108 : tt 108 = some (.st 2 24 [(0, 9), (1, 3)] [(.string ⟨#[]⟩), (Go.Value.int Go.IntKind.i64 0)]) := by kernel_rfl
theorem tk109 : Tok Try.prog 109 (.st 2 24 [(0, 9), (1, 3)] [(.string ⟨#[]⟩), (Go.Value.int Go.IntKind.i64 0)]) := ⟨by kernel_rfl, by kernel_rfl, by kernel_rfl, _, Try.underlying109, by kernel_rfl⟩
@[simp] theorem tt109 : tt 109 = some (.st 2 24 [(0, 9), (1, 3)] [(.string ⟨#[]⟩), (Go.Value.int Go.IntKind.i64 0)]) := by kernel_rfl
theorem tk111 : Tok Try.prog 111 (.ik .i64 8) := ⟨by kernel_rfl, Try.underlying111⟩
@[simp] theorem tt111 : tt 111 = some (.ik .i64 8) := by kernel_rfl
theorem tk120 : Tok Try.prog 120 (.ik .u32 4) := ⟨by kernel_rfl, Try.underlying120⟩
@[simp] theorem tt120 : tt 120 = some (.ik .u32 4) := by kernel_rfl
theorem tk122 : Tok Try.prog 122 (.ik .u64 8) := ⟨by kernel_rfl, Try.underlying122⟩
@[simp] theorem tt122 : tt 122 = some (.ik .u64 8) := by kernel_rfl
theorem tk135 : Tok Try.prog 135 (.sl 28) := ⟨by kernel_rfl, Try.underlying135⟩
@[simp] theorem tt135 : tt 135 = some (.sl 28) := by kernel_rfl
theorem tk136 : Tok Try.prog 136 (.ik .u64 8) := ⟨by kernel_rfl, Try.underlying136⟩
@[simp] theorem tt136 : tt 136 = some (.ik .u64 8) := by kernel_rfl
theorem tk140 : Tok Try.prog 140 (.sc 8 (Go.Value.pointer none)) := ⟨by kernel_rfl, by kernel_rfl, _, Try.underlying140, by kernel_rfl⟩
@[simp] theorem tt140 : tt 140 = some (.sc 8 (Go.Value.pointer none)) := by kernel_rfl
theorem tk149 : Tok Try.prog 149 (.sc 8 (Go.Value.pointer none)) := ⟨by kernel_rfl, by kernel_rfl, _, Try.underlying149, by kernel_rfl⟩
@[simp] theorem tt149 : tt 149 = some (.sc 8 (Go.Value.pointer none)) := by kernel_rfl
theorem tk156 : Tok Try.prog 156 (.st 4 40 [(0, 17), (1, 17), (2, 17), (3, 9)] [(Go.Value.pointer none), (Go.Value.pointer none), (Go.Value.pointer none), (.string ⟨#[]⟩)]) := ⟨by kernel_rfl, by kernel_rfl, by kernel_rfl, _, Try.underlying156, by kernel_rfl⟩
@[simp] theorem tt156 : tt 156 = some (.st 4 40 [(0, 17), (1, 17), (2, 17), (3, 9)] [(Go.Value.pointer none), (Go.Value.pointer none), (Go.Value.pointer none), (.string ⟨#[]⟩)]) := by kernel_rfl
theorem tk157 : Tok Try.prog 157 (.st 4 40 [(0, 17), (1, 17), (2, 17), (3, 9)] [(Go.Value.pointer none), (Go.Value.pointer none), (Go.Value.pointer none), (.string ⟨#[]⟩)]) := ⟨by kernel_rfl, by kernel_rfl, by kernel_rfl, _, Try.underlying157, by kernel_rfl⟩
@[simp] theorem tt157 : tt 157 = some (.st 4 40 [(0, 17), (1, 17), (2, 17), (3, 9)] [(Go.Value.pointer none), (Go.Value.pointer none), (Go.Value.pointer none), (.string ⟨#[]⟩)]) := by kernel_rfl
theorem tk159 : Tok Try.prog 159 (.st 0 0 [(0, 158)] []) := ⟨by kernel_rfl, by kernel_rfl, by kernel_rfl, _, Try.underlying159, by kernel_rfl⟩
@[simp] theorem tt159 : tt 159 = some (.st 0 0 [(0, 158)] []) := by kernel_rfl
theorem tk160 : Tok Try.prog 160 (.st 0 0 [(0, 158)] []) := ⟨by kernel_rfl, by kernel_rfl, by kernel_rfl, _, Try.underlying160, by kernel_rfl⟩
@[simp] theorem tt160 : tt 160 = some (.st 0 0 [(0, 158)] []) := by kernel_rfl
theorem tk162 : Tok Try.prog 162 (.ik .u8 1) := ⟨by kernel_rfl, Try.underlying162⟩
@[simp] theorem tt162 : tt 162 = some (.ik .u8 1) := by kernel_rfl
theorem tk163 : Tok Try.prog 163 (.ik .u8 1) := ⟨by kernel_rfl, Try.underlying163⟩
@[simp] theorem tt163 : tt 163 = some (.ik .u8 1) := by kernel_rfl
theorem tk165 : Tok Try.prog 165 (.sc 8 (Go.Value.pointer none)) := ⟨by kernel_rfl, by kernel_rfl, _, Try.underlying165, by kernel_rfl⟩
@[simp] theorem tt165 : tt 165 = some (.sc 8 (Go.Value.pointer none)) := by kernel_rfl
theorem tk166 : Tok Try.prog 166 (.ik .i32 4) := ⟨by kernel_rfl, Try.underlying166⟩
@[simp] theorem tt166 : tt 166 = some (.ik .i32 4) := by kernel_rfl
theorem tk167 : Tok Try.prog 167 (.ik .i32 4) := ⟨by kernel_rfl, Try.underlying167⟩
@[simp] theorem tt167 : tt 167 = some (.ik .i32 4) := by kernel_rfl
theorem tk168 : Tok Try.prog 168 (.st 11 48 [(0, 12), (1, 12), (2, 120), (3, 162), (4, 5), (5, 5), (6, 163), (7, 164), (8, 165), (9, 166), (10, 167)] [(Go.Value.int Go.IntKind.u64 0), (Go.Value.int Go.IntKind.u64 0), (Go.Value.int Go.IntKind.u32 0), (Go.Value.int Go.IntKind.u8 0), (Go.Value.int Go.IntKind.u8 0), (Go.Value.int Go.IntKind.u8 0), (Go.Value.int Go.IntKind.u8 0), Go.Value.nilFunc, (Go.Value.pointer none), (Go.Value.int Go.IntKind.i32 0), (Go.Value.int Go.IntKind.i32 0)]) := ⟨by kernel_rfl, by kernel_rfl, by kernel_rfl, _, Try.underlying168, by kernel_rfl⟩
@[simp] theorem tt168 : tt 168 = some (.st 11 48 [(0, 12), (1, 12), (2, 120), (3, 162), (4, 5), (5, 5), (6, 163), (7, 164), (8, 165), (9, 166), (10, 167)] [(Go.Value.int Go.IntKind.u64 0), (Go.Value.int Go.IntKind.u64 0), (Go.Value.int Go.IntKind.u32 0), (Go.Value.int Go.IntKind.u8 0), (Go.Value.int Go.IntKind.u8 0), (Go.Value.int Go.IntKind.u8 0), (Go.Value.int Go.IntKind.u8 0), Go.Value.nilFunc, (Go.Value.pointer none), (Go.Value.int Go.IntKind.i32 0), (Go.Value.int Go.IntKind.i32 0)]) := by kernel_rfl
theorem tk169 : Tok Try.prog 169 (.st 11 48 [(0, 12), (1, 12), (2, 120), (3, 162), (4, 5), (5, 5), (6, 163), (7, 164), (8, 165), (9, 166), (10, 167)] [(Go.Value.int Go.IntKind.u64 0), (Go.Value.int Go.IntKind.u64 0), (Go.Value.int Go.IntKind.u32 0), (Go.Value.int Go.IntKind.u8 0), (Go.Value.int Go.IntKind.u8 0), (Go.Value.int Go.IntKind.u8 0), (Go.Value.int Go.IntKind.u8 0), Go.Value.nilFunc, (Go.Value.pointer none), (Go.Value.int Go.IntKind.i32 0), (Go.Value.int Go.IntKind.i32 0)]) := ⟨by kernel_rfl, by kernel_rfl, by kernel_rfl, _, Try.underlying169, by kernel_rfl⟩
@[simp] theorem tt169 : tt 169 = some (.st 11 48 [(0, 12), (1, 12), (2, 120), (3, 162), (4, 5), (5, 5), (6, 163), (7, 164), (8, 165), (9, 166), (10, 167)] [(Go.Value.int Go.IntKind.u64 0), (Go.Value.int Go.IntKind.u64 0), (Go.Value.int Go.IntKind.u32 0), (Go.Value.int Go.IntKind.u8 0), (Go.Value.int Go.IntKind.u8 0), (Go.Value.int Go.IntKind.u8 0), (Go.Value.int Go.IntKind.u8 0), Go.Value.nilFunc, (Go.Value.pointer none), (Go.Value.int Go.IntKind.i32 0), (Go.Value.int Go.IntKind.i32 0)]) := by kernel_rfl
theorem ttAll0 : ∀ p ∈ ttL0, Tok Try.prog p.1 p.2 := by
  unfold ttL0
  simp only [List.forall_mem_cons]
  exact ⟨tk2, tk3, tk4, tk5, tk6, tk7, tk8, tk9, tk10, tk11, tk12, tk13, fun _ h => by cases h⟩
theorem ttAll1 : ∀ p ∈ ttL1, Tok Try.prog p.1 p.2 := by
  unfold ttL1
  simp only [List.forall_mem_cons]
  exact ⟨tk14, tk15, tk16, tk17, tk18, tk19, tk21, tk22, tk23, tk24, tk25, tk26, fun _ h => by cases h⟩
theorem ttAll2 : ∀ p ∈ ttL2, Tok Try.prog p.1 p.2 := by
  unfold ttL2
  simp only [List.forall_mem_cons]
  exact ⟨tk27, tk28, tk34, tk38, tk39, tk40, tk41, tk51, tk52, tk53, tk54, tk55, fun _ h => by cases h⟩
theorem ttAll3 : ∀ p ∈ ttL3, Tok Try.prog p.1 p.2 := by
  unfold ttL3
  simp only [List.forall_mem_cons]
  exact ⟨tk56, tk59, tk60, tk61, tk65, tk66, tk67, tk68, tk75, tk76, tk77, tk78, fun _ h => by cases h⟩
theorem ttAll4 : ∀ p ∈ ttL4, Tok Try.prog p.1 p.2 := by
  unfold ttL4
  simp only [List.forall_mem_cons]
  exact ⟨tk79, tk80, tk81, tk82, tk83, tk92, tk94, tk95, tk96, tk108, tk109, tk111, fun _ h => by cases h⟩
theorem ttAll5 : ∀ p ∈ ttL5, Tok Try.prog p.1 p.2 := by
  unfold ttL5
  simp only [List.forall_mem_cons]
  exact ⟨tk120, tk122, tk135, tk136, tk140, tk149, tk156, tk157, tk159, tk160, tk162, tk163, fun _ h => by cases h⟩
theorem ttAll6 : ∀ p ∈ ttL6, Tok Try.prog p.1 p.2 := by
  unfold ttL6
  simp only [List.forall_mem_cons]
  exact ⟨tk165, tk166, tk167, tk168, tk169, fun _ h => by cases h⟩
theorem ttAll : ∀ p ∈ ttL, Tok Try.prog p.1 p.2 := by
  intro p h
  unfold ttL at h
  simp only [List.mem_append] at h
  rcases h with ((((((h | h) | h) | h) | h) | h) | h)
  · exact ttAll0 p h
  · exact ttAll1 p h
  · exact ttAll2 p h
  · exact ttAll3 p h
  · exact ttAll4 p h
  · exact ttAll5 p h
  · exact ttAll6 p h
theorem ttOK : TOK Try.prog tt := by
  intro t i h
  unfold tt at h
  exact ttAll (t, i) (lk_mem h)
end Go.Proofs.Ab.Try
