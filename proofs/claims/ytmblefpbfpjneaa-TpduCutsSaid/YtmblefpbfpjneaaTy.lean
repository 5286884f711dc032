/- The types of this seat's program, as the engine asks for them. Printed by wip/tools/mkty.py out of the program's own table; held by the kernel. -/
import Derived.Test.YtmblefpbfpjneaaProg
import Derived.Test.YtmblefpbfpjneaaEngV
import Derived.KernelRfl
set_option linter.unusedVariables false
namespace Go.Proofs.Ytmblefpbfpjneaa
open Go Go.Eng
def ty : Ty := [
  (2, { k := TK.int IntKind.i64, size := 1, bytes := 8, zero := [Value.int IntKind.i64 0] }),
  (3, { k := TK.int IntKind.i64, size := 1, bytes := 8, zero := [Value.int IntKind.i64 0] }),
  (4, { k := TK.bool, size := 1, bytes := 1, zero := [Value.bool false] }),
  (5, { k := TK.int IntKind.u8, size := 1, bytes := 1, zero := [Value.int IntKind.u8 0] }),
  (6, { k := TK.int IntKind.u8, size := 1, bytes := 1, zero := [Value.int IntKind.u8 0] }), (7, { k := TK.strct [(0, 1, 2), (1, 1, 3), (2, 1, 4), (3, 1, 6)], size := 4, bytes := 24, zero := [Value.int IntKind.i64 0, Value.int IntKind.i64 0, Value.bool false, Value.int IntKind.u8 0] }), (8, { k := TK.strct [(0, 1, 2), (1, 1, 3), (2, 1, 4), (3, 1, 6)], size := 4, bytes := 24, zero := [Value.int IntKind.i64 0, Value.int IntKind.i64 0, Value.bool false, Value.int IntKind.u8 0] }),
  (9, { k := TK.str, size := 1, bytes := 16, zero := [Value.string ⟨#[]⟩] }),
  (10, { k := TK.str, size := 1, bytes := 16, zero := [Value.string ⟨#[]⟩] }),
  (11, { k := TK.str, size := 1, bytes := 16, zero := [Value.string ⟨#[]⟩] }),
  (12, { k := TK.int IntKind.u64, size := 1, bytes := 8, zero := [Value.int IntKind.u64 0] }),
  (15, { k := TK.ptr 108, size := 1, bytes := 8, zero := [Value.pointer none] }),
  (16, { k := TK.ptr 111, size := 1, bytes := 8, zero := [Value.pointer none] }),
  (17, { k := TK.ptr 118, size := 1, bytes := 8, zero := [Value.pointer none] }),
  (21, { k := TK.int IntKind.i32, size := 1, bytes := 4, zero := [Value.int IntKind.i32 0] }), (22, { k := TK.strct [(0, 1, 3), (1, 1, 3), (2, 1, 3), (3, 1, 3), (4, 1, 3), (5, 1, 3), (6, 1, 3), (7, 1, 3), (8, 1, 4), (9, 1, 9)], size := 10, bytes := 88, zero := [Value.int IntKind.i64 0, Value.int IntKind.i64 0, Value.int IntKind.i64 0, Value.int IntKind.i64 0, Value.int IntKind.i64 0, Value.int IntKind.i64 0, Value.int IntKind.i64 0, Value.int IntKind.i64 0, Value.bool false, Value.string ⟨#[]⟩] }), (23, { k := TK.strct [(0, 1, 3), (1, 1, 3), (2, 1, 3), (3, 1, 3), (4, 1, 3), (5, 1, 3), (6, 1, 3), (7, 1, 3), (8, 1, 4), (9, 1, 9)], size := 10, bytes := 88, zero := [Value.int IntKind.i64 0, Value.int IntKind.i64 0, Value.int IntKind.i64 0, Value.int IntKind.i64 0, Value.int IntKind.i64 0, Value.int IntKind.i64 0, Value.int IntKind.i64 0, Value.int IntKind.i64 0, Value.bool false, Value.string ⟨#[]⟩] }), (24, { k := TK.strct [(0, 1, 3), (1, 1, 3), (2, 1, 3), (3, 1, 3), (4, 1, 3), (5, 1, 3), (6, 1, 3), (7, 1, 3), (8, 1, 4), (9, 1, 9)], size := 10, bytes := 88, zero := [Value.int IntKind.i64 0, Value.int IntKind.i64 0, Value.int IntKind.i64 0, Value.int IntKind.i64 0, Value.int IntKind.i64 0, Value.int IntKind.i64 0, Value.int IntKind.i64 0, Value.int IntKind.i64 0, Value.bool false, Value.string ⟨#[]⟩] }),
  (25, { k := TK.int IntKind.i64, size := 1, bytes := 8, zero := [Value.int IntKind.i64 0] }),
  (34, { k := TK.slc 23, size := 1, bytes := 24, zero := [Value.slice none 0 0] }),
  (35, { k := TK.slc 24, size := 1, bytes := 24, zero := [Value.slice none 0 0] }),
  (37, { k := TK.slc 9, size := 1, bytes := 24, zero := [Value.slice none 0 0] }), (61, { k := TK.strct [(0, 1, 9), (1, 1, 9), (2, 1, 3), (3, 1, 3)], size := 4, bytes := 48, zero := [Value.string ⟨#[]⟩, Value.string ⟨#[]⟩, Value.int IntKind.i64 0, Value.int IntKind.i64 0] }), (62, { k := TK.strct [(0, 1, 9), (1, 1, 9), (2, 1, 3), (3, 1, 3)], size := 4, bytes := 48, zero := [Value.string ⟨#[]⟩, Value.string ⟨#[]⟩, Value.int IntKind.i64 0, Value.int IntKind.i64 0] }),
  (65, { k := TK.ptr 3, size := 1, bytes := 8, zero := [Value.pointer none] }), (66, { k := TK.strct [(0, 1, 65), (1, 1, 9), (2, 1, 3), (3, 1, 3), (4, 1, 3)], size := 5, bytes := 48, zero := [Value.pointer none, Value.string ⟨#[]⟩, Value.int IntKind.i64 0, Value.int IntKind.i64 0, Value.int IntKind.i64 0] }), (67, { k := TK.strct [(0, 1, 65), (1, 1, 9), (2, 1, 3), (3, 1, 3), (4, 1, 3)], size := 5, bytes := 48, zero := [Value.pointer none, Value.string ⟨#[]⟩, Value.int IntKind.i64 0, Value.int IntKind.i64 0, Value.int IntKind.i64 0] }),
  (70, { k := TK.ptr 73, size := 1, bytes := 8, zero := [Value.pointer none] }),
  (71, { k := TK.slc 5, size := 1, bytes := 24, zero := [Value.slice none 0 0] }), (72, { k := TK.strct [(0, 1, 70), (1, 1, 71)], size := 2, bytes := 32, zero := [Value.pointer none, Value.slice none 0 0] }), (73, { k := TK.strct [(0, 1, 70), (1, 1, 71)], size := 2, bytes := 32, zero := [Value.pointer none, Value.slice none 0 0] }),
  (80, { k := TK.int IntKind.u64, size := 1, bytes := 8, zero := [Value.int IntKind.u64 0] }), (89, { k := TK.arr 11 62, size := 44, bytes := 528, zero := [Value.string ⟨#[]⟩, Value.string ⟨#[]⟩, Value.int IntKind.i64 0, Value.int IntKind.i64 0, Value.string ⟨#[]⟩, Value.string ⟨#[]⟩, Value.int IntKind.i64 0, Value.int IntKind.i64 0, Value.string ⟨#[]⟩, Value.string ⟨#[]⟩, Value.int IntKind.i64 0, Value.int IntKind.i64 0, Value.string ⟨#[]⟩, Value.string ⟨#[]⟩, Value.int IntKind.i64 0, Value.int IntKind.i64 0, Value.string ⟨#[]⟩, Value.string ⟨#[]⟩, Value.int IntKind.i64 0, Value.int IntKind.i64 0, Value.string ⟨#[]⟩, Value.string ⟨#[]⟩, Value.int IntKind.i64 0, Value.int IntKind.i64 0, Value.string ⟨#[]⟩, Value.string ⟨#[]⟩, Value.int IntKind.i64 0, Value.int IntKind.i64 0, Value.string ⟨#[]⟩, Value.string ⟨#[]⟩, Value.int IntKind.i64 0, Value.int IntKind.i64 0, Value.string ⟨#[]⟩, Value.string ⟨#[]⟩, Value.int IntKind.i64 0, Value.int IntKind.i64 0, Value.string ⟨#[]⟩, Value.string ⟨#[]⟩, Value.int IntKind.i64 0, Value.int IntKind.i64 0, Value.string ⟨#[]⟩, Value.string ⟨#[]⟩, Value.int IntKind.i64 0, Value.int IntKind.i64 0] }),
  (90, { k := TK.ptr 24, size := 1, bytes := 8, zero := [Value.pointer none] }),
  (91, { k := TK.ptr 5, size := 1, bytes := 8, zero := [Value.pointer none] }),
  (100, { k := TK.int IntKind.u32, size := 1, bytes := 4, zero := [Value.int IntKind.u32 0] }),
  (103, { k := TK.int IntKind.u64, size := 1, bytes := 8, zero := [Value.int IntKind.u64 0] }),
  (109, { k := TK.arr 0 16, size := 0, bytes := 0, zero := [] }),
  (112, { k := TK.int IntKind.u8, size := 1, bytes := 1, zero := [Value.int IntKind.u8 0] }),
  (113, { k := TK.int IntKind.u8, size := 1, bytes := 1, zero := [Value.int IntKind.u8 0] }),
  (115, { k := TK.int IntKind.i32, size := 1, bytes := 4, zero := [Value.int IntKind.i32 0] }),
  (116, { k := TK.int IntKind.i32, size := 1, bytes := 4, zero := [Value.int IntKind.i32 0] })]
set_option maxRecDepth 1000000 in
theorem tyOK : TyOK Try.prog ty := tyOK_of (by kernel_rfl)
end Go.Proofs.Ytmblefpbfpjneaa
