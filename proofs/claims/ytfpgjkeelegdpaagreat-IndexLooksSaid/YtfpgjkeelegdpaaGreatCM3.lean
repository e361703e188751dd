/-
  What the evaluator asks about the types of the program. Printed by gentypes.py.
-/
import Derived.Test.YtfpgjkeelegdpaaGreatCM2
import Derived.Test.YtfpgjkeelegdpaaGreatRows
import Derived.KernelRfl
section
set_option maxRecDepth 100000
namespace Go.Proofs
open Go.Ax
theorem Tryz.lay1 : layT Tryz.prog 1 = some (false, 1) := by kernel_rfl
theorem Tryz.siz1 : sizeT Tryz.prog 1 = 1 := by kernel_rfl
theorem Tryz.inf1 : (Tryz.prog.info? 1).isSome = true := by kernel_rfl
theorem Tryz.zer1 : zeroT Tryz.prog 1 = some (.nilFunc) := by kernel_rfl
theorem Tryz.cnc1 : concreteT Tryz.prog 1 = true := by kernel_rfl
theorem Tryz.lay2 : layT Tryz.prog 2 = some (false, 1) := by kernel_rfl
theorem Tryz.siz2 : sizeT Tryz.prog 2 = 1 := by kernel_rfl
theorem Tryz.inf2 : (Tryz.prog.info? 2).isSome = true := by kernel_rfl
theorem Tryz.zer2 : zeroT Tryz.prog 2 = some (.int .i64 0) := by kernel_rfl
theorem Tryz.cnc2 : concreteT Tryz.prog 2 = true := by kernel_rfl
theorem Tryz.lay3 : layT Tryz.prog 3 = some (false, 1) := by kernel_rfl
theorem Tryz.siz3 : sizeT Tryz.prog 3 = 1 := by kernel_rfl
theorem Tryz.inf3 : (Tryz.prog.info? 3).isSome = true := by kernel_rfl
theorem Tryz.zer3 : zeroT Tryz.prog 3 = some (.int .i64 0) := by kernel_rfl
theorem Tryz.cnc3 : concreteT Tryz.prog 3 = true := by kernel_rfl
theorem Tryz.lay4 : layT Tryz.prog 4 = some (false, 1) := by kernel_rfl
theorem Tryz.siz4 : sizeT Tryz.prog 4 = 1 := by kernel_rfl
theorem Tryz.inf4 : (Tryz.prog.info? 4).isSome = true := by kernel_rfl
theorem Tryz.zer4 : zeroT Tryz.prog 4 = some (.bool false) := by kernel_rfl
theorem Tryz.cnc4 : concreteT Tryz.prog 4 = true := by kernel_rfl
theorem Tryz.lay5 : layT Tryz.prog 5 = some (false, 1) := by kernel_rfl
theorem Tryz.siz5 : sizeT Tryz.prog 5 = 1 := by kernel_rfl
theorem Tryz.inf5 : (Tryz.prog.info? 5).isSome = true := by kernel_rfl
theorem Tryz.zer5 : zeroT Tryz.prog 5 = some (.int .u8 0) := by kernel_rfl
theorem Tryz.cnc5 : concreteT Tryz.prog 5 = true := by kernel_rfl
theorem Tryz.lay9 : layT Tryz.prog 9 = some (false, 1) := by kernel_rfl
theorem Tryz.siz9 : sizeT Tryz.prog 9 = 1 := by kernel_rfl
theorem Tryz.inf9 : (Tryz.prog.info? 9).isSome = true := by kernel_rfl
theorem Tryz.zer9 : zeroT Tryz.prog 9 = some (.string ⟨#[]⟩) := by kernel_rfl
theorem Tryz.cnc9 : concreteT Tryz.prog 9 = true := by kernel_rfl
theorem Tryz.lay20 : layT Tryz.prog 20 = some (false, 1) := by kernel_rfl
theorem Tryz.siz20 : sizeT Tryz.prog 20 = 1 := by kernel_rfl
theorem Tryz.inf20 : (Tryz.prog.info? 20).isSome = true := by kernel_rfl
theorem Tryz.zer20 : zeroT Tryz.prog 20 = some (.nilIface) := by kernel_rfl
theorem Tryz.cnc20 : concreteT Tryz.prog 20 = false := by kernel_rfl
theorem Tryz.lay22 : layT Tryz.prog 22 = some (false, 1) := by kernel_rfl
theorem Tryz.siz22 : sizeT Tryz.prog 22 = 1 := by kernel_rfl
theorem Tryz.ptk22 : ptrKind Tryz.prog 22 = 3 := by kernel_rfl
theorem Tryz.inf22 : (Tryz.prog.info? 22).isSome = true := by kernel_rfl
theorem Tryz.zer22 : zeroT Tryz.prog 22 = some (.slice none 0 0) := by kernel_rfl
theorem Tryz.cnc22 : concreteT Tryz.prog 22 = true := by kernel_rfl
theorem Tryz.sel22 : sElem Tryz.prog 22 = some 3 := by kernel_rfl
theorem Tryz.lay23 : layT Tryz.prog 23 = some (false, 1) := by kernel_rfl
theorem Tryz.siz23 : sizeT Tryz.prog 23 = 1 := by kernel_rfl
theorem Tryz.ptk23 : ptrKind Tryz.prog 23 = 3 := by kernel_rfl
theorem Tryz.inf23 : (Tryz.prog.info? 23).isSome = true := by kernel_rfl
theorem Tryz.zer23 : zeroT Tryz.prog 23 = some (.slice none 0 0) := by kernel_rfl
theorem Tryz.cnc23 : concreteT Tryz.prog 23 = true := by kernel_rfl
theorem Tryz.sel23 : sElem Tryz.prog 23 = some 32 := by kernel_rfl
theorem Tryz.lay25 : layT Tryz.prog 25 = some (false, 1) := by kernel_rfl
theorem Tryz.siz25 : sizeT Tryz.prog 25 = 1 := by kernel_rfl
theorem Tryz.ptk25 : ptrKind Tryz.prog 25 = 1 := by kernel_rfl
theorem Tryz.inf25 : (Tryz.prog.info? 25).isSome = true := by kernel_rfl
theorem Tryz.zer25 : zeroT Tryz.prog 25 = some (.pointer none) := by kernel_rfl
theorem Tryz.cnc25 : concreteT Tryz.prog 25 = true := by kernel_rfl
theorem Tryz.lay28 : layT Tryz.prog 28 = some (false, 1) := by kernel_rfl
theorem Tryz.siz28 : sizeT Tryz.prog 28 = 1 := by kernel_rfl
theorem Tryz.inf28 : (Tryz.prog.info? 28).isSome = true := by kernel_rfl
theorem Tryz.zer28 : zeroT Tryz.prog 28 = some (.nilFunc) := by kernel_rfl
theorem Tryz.cnc28 : concreteT Tryz.prog 28 = true := by kernel_rfl
theorem Tryz.lay29 : layT Tryz.prog 29 = some (false, 1) := by kernel_rfl
theorem Tryz.siz29 : sizeT Tryz.prog 29 = 1 := by kernel_rfl
theorem Tryz.inf29 : (Tryz.prog.info? 29).isSome = true := by kernel_rfl
theorem Tryz.zer29 : zeroT Tryz.prog 29 = some (.int .i64 0) := by kernel_rfl
theorem Tryz.cnc29 : concreteT Tryz.prog 29 = true := by kernel_rfl
theorem Tryz.lay32 : layT Tryz.prog 32 = some (true, 4) := by kernel_rfl
theorem Tryz.siz32 : sizeT Tryz.prog 32 = 4 := by kernel_rfl
theorem Tryz.inf32 : (Tryz.prog.info? 32).isSome = true := by kernel_rfl
theorem Tryz.zer32 : zeroT Tryz.prog 32 = some (.agg #[.int .i64 0, .int .i64 0, .int .i64 0, .int .i64 0]) := by kernel_rfl
theorem Tryz.cnc32 : concreteT Tryz.prog 32 = true := by kernel_rfl
theorem Tryz.off32_0 : fOff Tryz.prog 32 0 = some 0 := by kernel_rfl
theorem Tryz.fty32_0 : fTy Tryz.prog 32 0 = some 2 := by kernel_rfl
theorem Tryz.off32_1 : fOff Tryz.prog 32 1 = some 1 := by kernel_rfl
theorem Tryz.fty32_1 : fTy Tryz.prog 32 1 = some 2 := by kernel_rfl
theorem Tryz.off32_2 : fOff Tryz.prog 32 2 = some 2 := by kernel_rfl
theorem Tryz.fty32_2 : fTy Tryz.prog 32 2 = some 2 := by kernel_rfl
theorem Tryz.off32_3 : fOff Tryz.prog 32 3 = some 3 := by kernel_rfl
theorem Tryz.fty32_3 : fTy Tryz.prog 32 3 = some 2 := by kernel_rfl
theorem Tryz.plc32 : bPlaces Tryz.prog 32 = some [(0, 1), (1, 1), (2, 1), (3, 1)] := by kernel_rfl
theorem Tryz.lay35 : layT Tryz.prog 35 = some (false, 1) := by kernel_rfl
theorem Tryz.siz35 : sizeT Tryz.prog 35 = 1 := by kernel_rfl
theorem Tryz.ptk35 : ptrKind Tryz.prog 35 = 3 := by kernel_rfl
theorem Tryz.inf35 : (Tryz.prog.info? 35).isSome = true := by kernel_rfl
theorem Tryz.zer35 : zeroT Tryz.prog 35 = some (.slice none 0 0) := by kernel_rfl
theorem Tryz.cnc35 : concreteT Tryz.prog 35 = true := by kernel_rfl
theorem Tryz.sel35 : sElem Tryz.prog 35 = some 95 := by kernel_rfl
theorem Tryz.lay42 : layT Tryz.prog 42 = some (true, 2) := by kernel_rfl
theorem Tryz.siz42 : sizeT Tryz.prog 42 = 2 := by kernel_rfl
theorem Tryz.inf42 : (Tryz.prog.info? 42).isSome = true := by kernel_rfl
theorem Tryz.zer42 : zeroT Tryz.prog 42 = some (.agg #[.int .i64 0, .int .i64 0]) := by kernel_rfl
theorem Tryz.cnc42 : concreteT Tryz.prog 42 = true := by kernel_rfl
theorem Tryz.off42_0 : fOff Tryz.prog 42 0 = some 0 := by kernel_rfl
theorem Tryz.fty42_0 : fTy Tryz.prog 42 0 = some 2 := by kernel_rfl
theorem Tryz.off42_1 : fOff Tryz.prog 42 1 = some 1 := by kernel_rfl
theorem Tryz.fty42_1 : fTy Tryz.prog 42 1 = some 2 := by kernel_rfl
theorem Tryz.plc42 : bPlaces Tryz.prog 42 = some [(0, 1), (1, 1)] := by kernel_rfl
theorem Tryz.lay48 : layT Tryz.prog 48 = some (false, 1) := by kernel_rfl
theorem Tryz.siz48 : sizeT Tryz.prog 48 = 1 := by kernel_rfl
theorem Tryz.ptk48 : ptrKind Tryz.prog 48 = 3 := by kernel_rfl
theorem Tryz.inf48 : (Tryz.prog.info? 48).isSome = true := by kernel_rfl
theorem Tryz.zer48 : zeroT Tryz.prog 48 = some (.slice none 0 0) := by kernel_rfl
theorem Tryz.cnc48 : concreteT Tryz.prog 48 = true := by kernel_rfl
theorem Tryz.sel48 : sElem Tryz.prog 48 = some 54 := by kernel_rfl
theorem Tryz.lay50 : layT Tryz.prog 50 = some (false, 1) := by kernel_rfl
theorem Tryz.siz50 : sizeT Tryz.prog 50 = 1 := by kernel_rfl
theorem Tryz.ptk50 : ptrKind Tryz.prog 50 = 1 := by kernel_rfl
theorem Tryz.inf50 : (Tryz.prog.info? 50).isSome = true := by kernel_rfl
theorem Tryz.zer50 : zeroT Tryz.prog 50 = some (.pointer none) := by kernel_rfl
theorem Tryz.cnc50 : concreteT Tryz.prog 50 = true := by kernel_rfl
theorem Tryz.lay54 : layT Tryz.prog 54 = some (true, 6) := by kernel_rfl
theorem Tryz.siz54 : sizeT Tryz.prog 54 = 6 := by kernel_rfl
theorem Tryz.inf54 : (Tryz.prog.info? 54).isSome = true := by kernel_rfl
theorem Tryz.zer54 : zeroT Tryz.prog 54 = some (.agg #[.int .i64 0, .int .i64 0, .int .i64 0, .int .i64 0, .int .i64 0, .int .i64 0]) := by kernel_rfl
theorem Tryz.cnc54 : concreteT Tryz.prog 54 = true := by kernel_rfl
theorem Tryz.off54_0 : fOff Tryz.prog 54 0 = some 0 := by kernel_rfl
theorem Tryz.fty54_0 : fTy Tryz.prog 54 0 = some 3 := by kernel_rfl
theorem Tryz.off54_1 : fOff Tryz.prog 54 1 = some 1 := by kernel_rfl
theorem Tryz.fty54_1 : fTy Tryz.prog 54 1 = some 3 := by kernel_rfl
theorem Tryz.off54_2 : fOff Tryz.prog 54 2 = some 2 := by kernel_rfl
theorem Tryz.fty54_2 : fTy Tryz.prog 54 2 = some 32 := by kernel_rfl
theorem Tryz.plc54 : bPlaces Tryz.prog 54 = some [(0, 1), (1, 1), (2, 4)] := by kernel_rfl
theorem Tryz.lay57 : layT Tryz.prog 57 = some (false, 1) := by kernel_rfl
theorem Tryz.siz57 : sizeT Tryz.prog 57 = 1 := by kernel_rfl
theorem Tryz.ptk57 : ptrKind Tryz.prog 57 = 1 := by kernel_rfl
theorem Tryz.inf57 : (Tryz.prog.info? 57).isSome = true := by kernel_rfl
theorem Tryz.zer57 : zeroT Tryz.prog 57 = some (.pointer none) := by kernel_rfl
theorem Tryz.cnc57 : concreteT Tryz.prog 57 = true := by kernel_rfl
theorem Tryz.lay58 : layT Tryz.prog 58 = some (false, 1) := by kernel_rfl
theorem Tryz.siz58 : sizeT Tryz.prog 58 = 1 := by kernel_rfl
theorem Tryz.ptk58 : ptrKind Tryz.prog 58 = 3 := by kernel_rfl
theorem Tryz.inf58 : (Tryz.prog.info? 58).isSome = true := by kernel_rfl
theorem Tryz.zer58 : zeroT Tryz.prog 58 = some (.slice none 0 0) := by kernel_rfl
theorem Tryz.cnc58 : concreteT Tryz.prog 58 = true := by kernel_rfl
theorem Tryz.sel58 : sElem Tryz.prog 58 = some 64 := by kernel_rfl
theorem Tryz.lay60 : layT Tryz.prog 60 = some (true, 4) := by kernel_rfl
theorem Tryz.siz60 : sizeT Tryz.prog 60 = 4 := by kernel_rfl
theorem Tryz.inf60 : (Tryz.prog.info? 60).isSome = true := by kernel_rfl
theorem Tryz.zer60 : zeroT Tryz.prog 60 = some (.agg #[.pointer none, .slice none 0 0, .slice none 0 0, .bool false]) := by kernel_rfl
theorem Tryz.cnc60 : concreteT Tryz.prog 60 = true := by kernel_rfl
theorem Tryz.off60_0 : fOff Tryz.prog 60 0 = some 0 := by kernel_rfl
theorem Tryz.fty60_0 : fTy Tryz.prog 60 0 = some 57 := by kernel_rfl
theorem Tryz.off60_1 : fOff Tryz.prog 60 1 = some 1 := by kernel_rfl
theorem Tryz.fty60_1 : fTy Tryz.prog 60 1 = some 58 := by kernel_rfl
theorem Tryz.off60_2 : fOff Tryz.prog 60 2 = some 2 := by kernel_rfl
theorem Tryz.fty60_2 : fTy Tryz.prog 60 2 = some 58 := by kernel_rfl
theorem Tryz.off60_3 : fOff Tryz.prog 60 3 = some 3 := by kernel_rfl
theorem Tryz.fty60_3 : fTy Tryz.prog 60 3 = some 4 := by kernel_rfl
theorem Tryz.plc60 : bPlaces Tryz.prog 60 = some [(0, 1), (1, 1), (2, 1), (3, 1)] := by kernel_rfl
theorem Tryz.lay64 : layT Tryz.prog 64 = some (true, 2) := by kernel_rfl
theorem Tryz.siz64 : sizeT Tryz.prog 64 = 2 := by kernel_rfl
theorem Tryz.inf64 : (Tryz.prog.info? 64).isSome = true := by kernel_rfl
theorem Tryz.zer64 : zeroT Tryz.prog 64 = some (.agg #[.int .i64 0, .int .i64 0]) := by kernel_rfl
theorem Tryz.cnc64 : concreteT Tryz.prog 64 = true := by kernel_rfl
theorem Tryz.off64_0 : fOff Tryz.prog 64 0 = some 0 := by kernel_rfl
theorem Tryz.fty64_0 : fTy Tryz.prog 64 0 = some 3 := by kernel_rfl
theorem Tryz.off64_1 : fOff Tryz.prog 64 1 = some 1 := by kernel_rfl
theorem Tryz.fty64_1 : fTy Tryz.prog 64 1 = some 3 := by kernel_rfl
theorem Tryz.plc64 : bPlaces Tryz.prog 64 = some [(0, 1), (1, 1)] := by kernel_rfl
theorem Tryz.lay76 : layT Tryz.prog 76 = some (false, 1) := by kernel_rfl
theorem Tryz.siz76 : sizeT Tryz.prog 76 = 1 := by kernel_rfl
theorem Tryz.ptk76 : ptrKind Tryz.prog 76 = 3 := by kernel_rfl
theorem Tryz.inf76 : (Tryz.prog.info? 76).isSome = true := by kernel_rfl
theorem Tryz.zer76 : zeroT Tryz.prog 76 = some (.slice none 0 0) := by kernel_rfl
theorem Tryz.cnc76 : concreteT Tryz.prog 76 = true := by kernel_rfl
theorem Tryz.sel76 : sElem Tryz.prog 76 = some 128 := by kernel_rfl
theorem Tryz.lay79 : layT Tryz.prog 79 = some (false, 1) := by kernel_rfl
theorem Tryz.siz79 : sizeT Tryz.prog 79 = 1 := by kernel_rfl
theorem Tryz.ptk79 : ptrKind Tryz.prog 79 = 1 := by kernel_rfl
theorem Tryz.inf79 : (Tryz.prog.info? 79).isSome = true := by kernel_rfl
theorem Tryz.zer79 : zeroT Tryz.prog 79 = some (.pointer none) := by kernel_rfl
theorem Tryz.cnc79 : concreteT Tryz.prog 79 = true := by kernel_rfl
theorem Tryz.lay87 : layT Tryz.prog 87 = some (false, 1) := by kernel_rfl
theorem Tryz.siz87 : sizeT Tryz.prog 87 = 1 := by kernel_rfl
theorem Tryz.ptk87 : ptrKind Tryz.prog 87 = 3 := by kernel_rfl
theorem Tryz.inf87 : (Tryz.prog.info? 87).isSome = true := by kernel_rfl
theorem Tryz.zer87 : zeroT Tryz.prog 87 = some (.slice none 0 0) := by kernel_rfl
theorem Tryz.cnc87 : concreteT Tryz.prog 87 = true := by kernel_rfl
theorem Tryz.sel87 : sElem Tryz.prog 87 = some 4 := by kernel_rfl
theorem Tryz.lay95 : layT Tryz.prog 95 = some (true, 2) := by kernel_rfl
theorem Tryz.siz95 : sizeT Tryz.prog 95 = 2 := by kernel_rfl
theorem Tryz.inf95 : (Tryz.prog.info? 95).isSome = true := by kernel_rfl
theorem Tryz.zer95 : zeroT Tryz.prog 95 = some (.agg #[.int .i64 0, .int .i64 0]) := by kernel_rfl
theorem Tryz.cnc95 : concreteT Tryz.prog 95 = true := by kernel_rfl
theorem Tryz.off95_0 : fOff Tryz.prog 95 0 = some 0 := by kernel_rfl
theorem Tryz.fty95_0 : fTy Tryz.prog 95 0 = some 3 := by kernel_rfl
theorem Tryz.off95_1 : fOff Tryz.prog 95 1 = some 1 := by kernel_rfl
theorem Tryz.fty95_1 : fTy Tryz.prog 95 1 = some 3 := by kernel_rfl
theorem Tryz.plc95 : bPlaces Tryz.prog 95 = some [(0, 1), (1, 1)] := by kernel_rfl
theorem Tryz.lay96 : layT Tryz.prog 96 = some (false, 1) := by kernel_rfl
theorem Tryz.siz96 : sizeT Tryz.prog 96 = 1 := by kernel_rfl
theorem Tryz.inf96 : (Tryz.prog.info? 96).isSome = true := by kernel_rfl
theorem Tryz.zer96 : zeroT Tryz.prog 96 = some (.int .u64 0) := by kernel_rfl
theorem Tryz.cnc96 : concreteT Tryz.prog 96 = true := by kernel_rfl
theorem Tryz.lay98 : layT Tryz.prog 98 = some (true, 1) := by kernel_rfl
theorem Tryz.siz98 : sizeT Tryz.prog 98 = 1 := by kernel_rfl
theorem Tryz.inf98 : (Tryz.prog.info? 98).isSome = true := by kernel_rfl
theorem Tryz.zer98 : zeroT Tryz.prog 98 = some (.agg #[.int .u64 0]) := by kernel_rfl
theorem Tryz.cnc98 : concreteT Tryz.prog 98 = true := by kernel_rfl
theorem Tryz.off98_0 : fOff Tryz.prog 98 0 = some 0 := by kernel_rfl
theorem Tryz.fty98_0 : fTy Tryz.prog 98 0 = some 96 := by kernel_rfl
theorem Tryz.plc98 : bPlaces Tryz.prog 98 = some [(0, 1)] := by kernel_rfl
theorem Tryz.lay100 : layT Tryz.prog 100 = some (true, 2) := by kernel_rfl
theorem Tryz.siz100 : sizeT Tryz.prog 100 = 2 := by kernel_rfl
theorem Tryz.inf100 : (Tryz.prog.info? 100).isSome = true := by kernel_rfl
theorem Tryz.zer100 : zeroT Tryz.prog 100 = some (.agg #[.int .u64 0, .slice none 0 0]) := by kernel_rfl
theorem Tryz.cnc100 : concreteT Tryz.prog 100 = true := by kernel_rfl
theorem Tryz.off100_0 : fOff Tryz.prog 100 0 = some 0 := by kernel_rfl
theorem Tryz.fty100_0 : fTy Tryz.prog 100 0 = some 98 := by kernel_rfl
theorem Tryz.off100_1 : fOff Tryz.prog 100 1 = some 1 := by kernel_rfl
theorem Tryz.fty100_1 : fTy Tryz.prog 100 1 = some 22 := by kernel_rfl
theorem Tryz.plc100 : bPlaces Tryz.prog 100 = some [(0, 1), (1, 1)] := by kernel_rfl
theorem Tryz.lay101 : layT Tryz.prog 101 = some (false, 1) := by kernel_rfl
theorem Tryz.siz101 : sizeT Tryz.prog 101 = 1 := by kernel_rfl
theorem Tryz.ptk101 : ptrKind Tryz.prog 101 = 2 := by kernel_rfl
theorem Tryz.mly101 : mapLay Tryz.prog 101 = some 4 := by kernel_rfl
theorem Tryz.inf101 : (Tryz.prog.info? 101).isSome = true := by kernel_rfl
theorem Tryz.zer101 : zeroT Tryz.prog 101 = some (.map none) := by kernel_rfl
theorem Tryz.cnc101 : concreteT Tryz.prog 101 = true := by kernel_rfl
theorem Tryz.lay103 : layT Tryz.prog 103 = some (true, 1) := by kernel_rfl
theorem Tryz.siz103 : sizeT Tryz.prog 103 = 1 := by kernel_rfl
theorem Tryz.inf103 : (Tryz.prog.info? 103).isSome = true := by kernel_rfl
theorem Tryz.zer103 : zeroT Tryz.prog 103 = some (.agg #[.map none]) := by kernel_rfl
theorem Tryz.cnc103 : concreteT Tryz.prog 103 = true := by kernel_rfl
theorem Tryz.off103_0 : fOff Tryz.prog 103 0 = some 0 := by kernel_rfl
theorem Tryz.fty103_0 : fTy Tryz.prog 103 0 = some 101 := by kernel_rfl
theorem Tryz.plc103 : bPlaces Tryz.prog 103 = some [(0, 1)] := by kernel_rfl
theorem Tryz.lay113 : layT Tryz.prog 113 = some (false, 1) := by kernel_rfl
theorem Tryz.siz113 : sizeT Tryz.prog 113 = 1 := by kernel_rfl
theorem Tryz.inf113 : (Tryz.prog.info? 113).isSome = true := by kernel_rfl
theorem Tryz.zer113 : zeroT Tryz.prog 113 = some (.nilFunc) := by kernel_rfl
theorem Tryz.cnc113 : concreteT Tryz.prog 113 = true := by kernel_rfl
theorem Tryz.lay115 : layT Tryz.prog 115 = some (false, 1) := by kernel_rfl
theorem Tryz.siz115 : sizeT Tryz.prog 115 = 1 := by kernel_rfl
theorem Tryz.inf115 : (Tryz.prog.info? 115).isSome = true := by kernel_rfl
theorem Tryz.zer115 : zeroT Tryz.prog 115 = some (.nilFunc) := by kernel_rfl
theorem Tryz.cnc115 : concreteT Tryz.prog 115 = true := by kernel_rfl
theorem Tryz.lay118 : layT Tryz.prog 118 = some (false, 1) := by kernel_rfl
theorem Tryz.siz118 : sizeT Tryz.prog 118 = 1 := by kernel_rfl
theorem Tryz.inf118 : (Tryz.prog.info? 118).isSome = true := by kernel_rfl
theorem Tryz.zer118 : zeroT Tryz.prog 118 = some (.nilFunc) := by kernel_rfl
theorem Tryz.cnc118 : concreteT Tryz.prog 118 = true := by kernel_rfl
theorem Tryz.lay119 : layT Tryz.prog 119 = some (false, 1) := by kernel_rfl
theorem Tryz.siz119 : sizeT Tryz.prog 119 = 1 := by kernel_rfl
theorem Tryz.ptk119 : ptrKind Tryz.prog 119 = 3 := by kernel_rfl
theorem Tryz.inf119 : (Tryz.prog.info? 119).isSome = true := by kernel_rfl
theorem Tryz.zer119 : zeroT Tryz.prog 119 = some (.slice none 0 0) := by kernel_rfl
theorem Tryz.cnc119 : concreteT Tryz.prog 119 = true := by kernel_rfl
theorem Tryz.sel119 : sElem Tryz.prog 119 = some 130 := by kernel_rfl
theorem Tryz.lay121 : layT Tryz.prog 121 = some (true, 2) := by kernel_rfl
theorem Tryz.siz121 : sizeT Tryz.prog 121 = 2 := by kernel_rfl
theorem Tryz.inf121 : (Tryz.prog.info? 121).isSome = true := by kernel_rfl
theorem Tryz.zer121 : zeroT Tryz.prog 121 = some (.agg #[.bool false, .slice none 0 0]) := by kernel_rfl
theorem Tryz.cnc121 : concreteT Tryz.prog 121 = true := by kernel_rfl
theorem Tryz.off121_0 : fOff Tryz.prog 121 0 = some 0 := by kernel_rfl
theorem Tryz.fty121_0 : fTy Tryz.prog 121 0 = some 4 := by kernel_rfl
theorem Tryz.off121_1 : fOff Tryz.prog 121 1 = some 1 := by kernel_rfl
theorem Tryz.fty121_1 : fTy Tryz.prog 121 1 = some 119 := by kernel_rfl
theorem Tryz.plc121 : bPlaces Tryz.prog 121 = some [(0, 1), (1, 1)] := by kernel_rfl
theorem Tryz.lay125 : layT Tryz.prog 125 = some (true, 2) := by kernel_rfl
theorem Tryz.siz125 : sizeT Tryz.prog 125 = 2 := by kernel_rfl
theorem Tryz.inf125 : (Tryz.prog.info? 125).isSome = true := by kernel_rfl
theorem Tryz.zer125 : zeroT Tryz.prog 125 = some (.agg #[.slice none 0 0, .slice none 0 0]) := by kernel_rfl
theorem Tryz.cnc125 : concreteT Tryz.prog 125 = true := by kernel_rfl
theorem Tryz.off125_0 : fOff Tryz.prog 125 0 = some 0 := by kernel_rfl
theorem Tryz.fty125_0 : fTy Tryz.prog 125 0 = some 22 := by kernel_rfl
theorem Tryz.off125_1 : fOff Tryz.prog 125 1 = some 1 := by kernel_rfl
theorem Tryz.fty125_1 : fTy Tryz.prog 125 1 = some 87 := by kernel_rfl
theorem Tryz.plc125 : bPlaces Tryz.prog 125 = some [(0, 1), (1, 1)] := by kernel_rfl
theorem Tryz.lay128 : layT Tryz.prog 128 = some (true, 3) := by kernel_rfl
theorem Tryz.siz128 : sizeT Tryz.prog 128 = 3 := by kernel_rfl
theorem Tryz.inf128 : (Tryz.prog.info? 128).isSome = true := by kernel_rfl
theorem Tryz.zer128 : zeroT Tryz.prog 128 = some (.agg #[.int .i64 0, .int .i64 0, .int .i64 0]) := by kernel_rfl
theorem Tryz.cnc128 : concreteT Tryz.prog 128 = true := by kernel_rfl
theorem Tryz.off128_0 : fOff Tryz.prog 128 0 = some 0 := by kernel_rfl
theorem Tryz.fty128_0 : fTy Tryz.prog 128 0 = some 3 := by kernel_rfl
theorem Tryz.off128_1 : fOff Tryz.prog 128 1 = some 1 := by kernel_rfl
theorem Tryz.fty128_1 : fTy Tryz.prog 128 1 = some 3 := by kernel_rfl
theorem Tryz.off128_2 : fOff Tryz.prog 128 2 = some 2 := by kernel_rfl
theorem Tryz.fty128_2 : fTy Tryz.prog 128 2 = some 3 := by kernel_rfl
theorem Tryz.plc128 : bPlaces Tryz.prog 128 = some [(0, 1), (1, 1), (2, 1)] := by kernel_rfl
theorem Tryz.lay130 : layT Tryz.prog 130 = some (true, 5) := by kernel_rfl
theorem Tryz.siz130 : sizeT Tryz.prog 130 = 5 := by kernel_rfl
theorem Tryz.inf130 : (Tryz.prog.info? 130).isSome = true := by kernel_rfl
theorem Tryz.zer130 : zeroT Tryz.prog 130 = some (.agg #[.int .i64 0, .int .i64 0, .int .i64 0, .int .i64 0, .int .i64 0]) := by kernel_rfl
theorem Tryz.cnc130 : concreteT Tryz.prog 130 = true := by kernel_rfl
theorem Tryz.off130_0 : fOff Tryz.prog 130 0 = some 0 := by kernel_rfl
theorem Tryz.fty130_0 : fTy Tryz.prog 130 0 = some 3 := by kernel_rfl
theorem Tryz.off130_1 : fOff Tryz.prog 130 1 = some 1 := by kernel_rfl
theorem Tryz.fty130_1 : fTy Tryz.prog 130 1 = some 32 := by kernel_rfl
theorem Tryz.plc130 : bPlaces Tryz.prog 130 = some [(0, 1), (1, 4)] := by kernel_rfl
theorem Tryz.lay133 : layT Tryz.prog 133 = some (false, 1) := by kernel_rfl
theorem Tryz.siz133 : sizeT Tryz.prog 133 = 1 := by kernel_rfl
theorem Tryz.inf133 : (Tryz.prog.info? 133).isSome = true := by kernel_rfl
theorem Tryz.zer133 : zeroT Tryz.prog 133 = some (.nilFunc) := by kernel_rfl
theorem Tryz.cnc133 : concreteT Tryz.prog 133 = true := by kernel_rfl
theorem Tryz.lay134 : layT Tryz.prog 134 = some (false, 1) := by kernel_rfl
theorem Tryz.siz134 : sizeT Tryz.prog 134 = 1 := by kernel_rfl
theorem Tryz.inf134 : (Tryz.prog.info? 134).isSome = true := by kernel_rfl
theorem Tryz.zer134 : zeroT Tryz.prog 134 = some (.nilFunc) := by kernel_rfl
theorem Tryz.cnc134 : concreteT Tryz.prog 134 = true := by kernel_rfl
theorem Tryz.lay139 : layT Tryz.prog 139 = some (false, 1) := by kernel_rfl
theorem Tryz.siz139 : sizeT Tryz.prog 139 = 1 := by kernel_rfl
theorem Tryz.inf139 : (Tryz.prog.info? 139).isSome = true := by kernel_rfl
theorem Tryz.zer139 : zeroT Tryz.prog 139 = some (.int .u64 0) := by kernel_rfl
theorem Tryz.cnc139 : concreteT Tryz.prog 139 = true := by kernel_rfl
theorem Tryz.lay145 : layT Tryz.prog 145 = some (true, 2) := by kernel_rfl
theorem Tryz.siz145 : sizeT Tryz.prog 145 = 2 := by kernel_rfl
theorem Tryz.inf145 : (Tryz.prog.info? 145).isSome = true := by kernel_rfl
theorem Tryz.zer145 : zeroT Tryz.prog 145 = some (.agg #[.int .i64 0, .int .i64 0]) := by kernel_rfl
theorem Tryz.cnc145 : concreteT Tryz.prog 145 = true := by kernel_rfl
theorem Tryz.plc145 : bPlaces Tryz.prog 145 = some [(0, 1), (1, 1)] := by kernel_rfl
theorem Tryz.ael145 : aElem Tryz.prog 145 = some (2, 2) := by kernel_rfl
theorem Tryz.lay148 : layT Tryz.prog 148 = some (false, 1) := by kernel_rfl
theorem Tryz.siz148 : sizeT Tryz.prog 148 = 1 := by kernel_rfl
theorem Tryz.ptk148 : ptrKind Tryz.prog 148 = 1 := by kernel_rfl
theorem Tryz.inf148 : (Tryz.prog.info? 148).isSome = true := by kernel_rfl
theorem Tryz.zer148 : zeroT Tryz.prog 148 = some (.pointer none) := by kernel_rfl
theorem Tryz.cnc148 : concreteT Tryz.prog 148 = true := by kernel_rfl
theorem Tryz.lay151 : layT Tryz.prog 151 = some (false, 1) := by kernel_rfl
theorem Tryz.siz151 : sizeT Tryz.prog 151 = 1 := by kernel_rfl
theorem Tryz.ptk151 : ptrKind Tryz.prog 151 = 3 := by kernel_rfl
theorem Tryz.inf151 : (Tryz.prog.info? 151).isSome = true := by kernel_rfl
theorem Tryz.zer151 : zeroT Tryz.prog 151 = some (.slice none 0 0) := by kernel_rfl
theorem Tryz.cnc151 : concreteT Tryz.prog 151 = true := by kernel_rfl
theorem Tryz.sel151 : sElem Tryz.prog 151 = some 42 := by kernel_rfl
theorem Tryz.lay155 : layT Tryz.prog 155 = some (false, 1) := by kernel_rfl
theorem Tryz.siz155 : sizeT Tryz.prog 155 = 1 := by kernel_rfl
theorem Tryz.inf155 : (Tryz.prog.info? 155).isSome = true := by kernel_rfl
theorem Tryz.zer155 : zeroT Tryz.prog 155 = some (.int .i64 0) := by kernel_rfl
theorem Tryz.cnc155 : concreteT Tryz.prog 155 = true := by kernel_rfl
theorem Tryz.lay163 : layT Tryz.prog 163 = some (false, 1) := by kernel_rfl
theorem Tryz.siz163 : sizeT Tryz.prog 163 = 1 := by kernel_rfl
theorem Tryz.inf163 : (Tryz.prog.info? 163).isSome = true := by kernel_rfl
theorem Tryz.zer163 : zeroT Tryz.prog 163 = some (.int .u32 0) := by kernel_rfl
theorem Tryz.cnc163 : concreteT Tryz.prog 163 = true := by kernel_rfl
theorem Tryz.lay173 : layT Tryz.prog 173 = some (false, 1) := by kernel_rfl
theorem Tryz.siz173 : sizeT Tryz.prog 173 = 1 := by kernel_rfl
theorem Tryz.inf173 : (Tryz.prog.info? 173).isSome = true := by kernel_rfl
theorem Tryz.zer173 : zeroT Tryz.prog 173 = some (.int .u64 0) := by kernel_rfl
theorem Tryz.cnc173 : concreteT Tryz.prog 173 = true := by kernel_rfl
theorem Tryz.lay177 : layT Tryz.prog 177 = some (false, 1) := by kernel_rfl
theorem Tryz.siz177 : sizeT Tryz.prog 177 = 1 := by kernel_rfl
theorem Tryz.ptk177 : ptrKind Tryz.prog 177 = 1 := by kernel_rfl
theorem Tryz.inf177 : (Tryz.prog.info? 177).isSome = true := by kernel_rfl
theorem Tryz.zer177 : zeroT Tryz.prog 177 = some (.pointer none) := by kernel_rfl
theorem Tryz.cnc177 : concreteT Tryz.prog 177 = true := by kernel_rfl
theorem Tryz.lay187 : layT Tryz.prog 187 = some (false, 1) := by kernel_rfl
theorem Tryz.siz187 : sizeT Tryz.prog 187 = 1 := by kernel_rfl
theorem Tryz.ptk187 : ptrKind Tryz.prog 187 = 1 := by kernel_rfl
theorem Tryz.inf187 : (Tryz.prog.info? 187).isSome = true := by kernel_rfl
theorem Tryz.zer187 : zeroT Tryz.prog 187 = some (.pointer none) := by kernel_rfl
theorem Tryz.cnc187 : concreteT Tryz.prog 187 = true := by kernel_rfl
end Go.Proofs
end

section
/-
  The evaluator's equations, so said that a simplifier looks at what decides first.
-/
set_option linter.unusedVariables false
namespace Go.Ax
section
variable {P : Program} {G : Ctx} {H : Hots} {c : Code} {s s' : St} {K : AEx → St → Prop} {K1 : St → Prop} {hot : Option Hot} {ops : Array Oper} {base : Nat} {rest : List Oper} {i i' : Nat} {key key' : Nat} {o : Oper} {t t' : Slots} {m m' : Mem}

/-! ### Choices -/

/-- A mark: look into this. -/
def mark {α : Sort _} (x : α) : α := x
def optB {α β : Type} (x : Option α) (k : α → β) (d : Unit → β) : β := match x with
  | some a => k a
  | none => d ()
def ifB {β : Type} (b : Bool) (x y : Unit → β) : β := match b with
  | true => x ()
  | false => y ()
def ifP {β : Type} (p : Prop) [Decidable p] (x y : Unit → β) : β := if p then x () else y ()
def tupK {β : Type} (a : AV) (k : List AV → β) (d : Unit → β) : β := match a with
  | .tup cs => k cs
  | _ => d ()
def fnK {β : Type} (a : AV) (k : FuncId → List AV → β) (d : Unit → β) : β := match a with
  | .fn f cs => k f cs
  | _ => d ()
def ifcK {β : Type} (a : AV) (k : TypeId → AV → β) (d : Unit → β) : β := match a with
  | .iface u y => k u y
  | _ => d ()
/-! ### A region's steps -/

theorem stepE_free1 {d : Option Tmp} {op : Op} {ty : TypeId} {pos : String} {af : Array Edge} : stepE P G ops key ⟨d, op, ty, pos, af, none⟩ t m =
    optB (aStep P G key none ⟨d, op, ty, pos, af, none⟩ (opd t) m) (fun e => some ⟨owed ⟨d, op, ty, pos, af, none⟩ (opd t) ++ e.ob, e.val, e.u⟩) (fun _ => none) := by
  kernel_rfl
theorem stepE_guard1 {d : Option Tmp} {op : Op} {ty : TypeId} {pos : String} {af : Array Edge} {g : Nat × Bool} : stepE P G ops key ⟨d, op, ty, pos, af, some g⟩ t m =
    optB (guardOf ops (slot t) g) (fun b => optB (aStep P G key (some b) ⟨d, op, ty, pos, af, some g⟩ (opd t) m) (fun e => ifB e.u.mild (fun _ => some ⟨(owed ⟨d, op, ty, pos, af, some g⟩ (opd t) ++ e.ob).map (b = true → ·), .cond b e.val, e.u⟩) (fun _ => some ⟨(owed ⟨d, op, ty, pos, af, some g⟩ (opd t) ++ e.ob).map (b = true → ·), .cond b e.val, e.u.when b⟩)) (fun _ => none)) (fun _ => none) := by
  kernel_rfl

section
variable {d : Option Tmp} {ty : TypeId} {pos : String} {af : Array Edge} {gd : Option (Nat × Bool)} {g : Option Bool} {ρ0 : Operand → AV}

theorem aStep_move {x : Operand} : aStep P G key g ⟨d, .move x, ty, pos, af, gd⟩ ρ0 m = some ⟨[], strip (ρ0 x), .none⟩ := (rfl)
theorem aStep_assign {x : Operand} : aStep P G key g ⟨d, .assign x, ty, pos, af, gd⟩ ρ0 m = some ⟨[], strip (ρ0 x), .none⟩ := (rfl)
theorem aStep_pick {c a b : Operand} : aStep P G key g ⟨d, .pick c a b, ty, pos, af, gd⟩ ρ0 m = effOf2 (aPick ρ0 c a b) := rfl
theorem aPick_or {c y : Operand} : aPick ρ0 c (.const (.bool true)) y = optB (boolOf (strip (ρ0 c))) (fun t => optB (boolOf (strip (ρ0 y))) (fun q => some (needs [ρ0 c] ++ (needs [ρ0 y]).map (t = false → ·), .v (.bool (t || q)))) (fun _ => none)) (fun _ => none) := by
  kernel_rfl
theorem aPick_and {c : Operand} {j : Nat} : aPick ρ0 c (.tmp j) (.const (.bool false)) = optB (boolOf (strip (ρ0 c))) (fun t => optB (boolOf (strip (ρ0 (.tmp j)))) (fun q => some (needs [ρ0 c] ++ (needs [ρ0 (.tmp j)]).map (t = true → ·), .v (.bool (t && q)))) (fun _ => none)) (fun _ => none) := by
  kernel_rfl
theorem aLoad_bx {t : TypeId} {r k : Nat} : aLoad P t (.bx r k) m = optB (look m r) (fun fam => ifB (decide ((fam 0).n = 1)) (fun _ => optB (ofCells P t (((fam 0).get 0).drop k)) (fun a => some (gOb (fam 0).g [], a)) (fun _ => none)) (fun _ => none)) (fun _ => none) := by
  unfold aLoad optB ifB
  dsimp only
  cases look m r with
  | none => rfl
  | some fam =>
    dsimp only
    generalize (fam 0).n = q
    rcases q with _ | _ | q
    · rfl
    · kernel_rfl
    · rfl
theorem aStep_store {t : TypeId} {p x : Operand} : aStep P G key g ⟨d, .store t p x, ty, pos, af, gd⟩ ρ0 m = aStore P t (strip (ρ0 p)) (strip (ρ0 x)) m := rfl
theorem aStep_build {t : TypeId} {parts : Array (Nat × Operand)} : aStep P G key g ⟨d, .build t parts, ty, pos, af, gd⟩ ρ0 m = optB (zeroT P t) (fun z => optB (bPlaces P t) (fun pl => optB (fillA (fun i => pl[i]?) (z.cells.toList.map .v) (parts.toList.map fun q => (q.1, strip (ρ0 q.2)))) (fun cs => some ⟨[], .agg cs, .none⟩) (fun _ => none)) (fun _ => none)) (fun _ => none) := by
  show effOf (aBuild P _ t parts.toList) = _
  unfold aBuild optB effOf
  cases zeroT P t with
  | none => rfl
  | some z =>
    dsimp only
    cases bPlaces P t with
    | none => rfl
    | some pl =>
      dsimp only
      cases fillA (fun i => pl[i]?) (z.cells.toList.map .v) (parts.toList.map fun q => (q.1, strip (ρ0 q.2))) <;> rfl
theorem aStep_buildSlice {t : TypeId} {len : Nat} {parts : Array (Nat × Operand)} : aStep P G key g ⟨d, .buildSlice t len parts, ty, pos, af, gd⟩ ρ0 m =
    optB (sElem P t) (fun e => optB (zeroT P e) (fun z => ifP (len * sizeT P e ≤ 16777216 ∧ z.cells.size = sizeT P e) (fun _ => optB (fillA (fun i => some (i * sizeT P e, sizeT P e)) (zeros z len) (parts.toList.map fun q => (q.1, strip (ρ0 q.2))))
      (fun cs => if 13 ≤ sizeT P e ∧ cs.all (clean 2) = true then some ⟨[], .ro len (sizeT P e) (rowsOf (sizeT P e) cs), .none⟩ else some ⟨[], .own key 0 len (sizeT P e), .new (fun f => if f = 0 then ⟨len, sizeT P e, e, rowsOf (sizeT P e) cs, g⟩ else ⟨0, sizeT P e, e, fun _ => [], g⟩)⟩) (fun _ => none)) (fun _ => none)) (fun _ => none)) (fun _ => none) := by
  kernel_rfl
def addrOff (off : Nat) : AV → Option AV
  | .bx r k => some (.bx r (k + off))
  | .ptr r g i sz k => some (.ptr r g i sz (k + off))
  | .rop cs => some (.rop (cs.drop off))
  | _ => none
theorem aStep_fieldAddr {s : TypeId} {p : Operand} {f : Nat} : aStep P G key g ⟨d, .fieldAddr s p f, ty, pos, af, gd⟩ ρ0 m = optB (fOff P s f) (fun off => effOf (addrOff off (strip (ρ0 p)))) (fun _ => none) := by
  show effOf (aFieldAddr P s f _) = _
  unfold aFieldAddr optB
  cases fOff P s f with
  | none => rfl
  | some off => dsimp only; cases strip (ρ0 p) <;> rfl
theorem aStep_field {s : TypeId} {x : Operand} {f : Nat} : aStep P G key g ⟨d, .field s x f, ty, pos, af, gd⟩ ρ0 m = effOf (aField P s f (strip (ρ0 x))) := rfl
theorem aIndexAddr_ro {t : TypeId} {len sz : Nat} {get : Nat → List AV} {k : IntKind} {n : Int} : aIndexAddr P t (.ro len sz get) (.v (.int k n)) = optB (sElem P t) (fun e => ifP ((P.info? e).isSome = true ∧ sizeT P e = sz) (fun _ => some ([0 ≤ n, n < (len : Int)], .rop (get n.toNat))) (fun _ => none)) (fun _ => none) := by
  kernel_rfl
theorem aIndexAddr_own {t : TypeId} {r f len sz : Nat} {k : IntKind} {n : Int} : aIndexAddr P t (.own r f len sz) (.v (.int k n)) = optB (sElem P t) (fun e => ifP ((P.info? e).isSome = true ∧ sizeT P e = sz) (fun _ => some ([0 ≤ n, n < (len : Int)], .ptr r f n.toNat sz 0)) (fun _ => none)) (fun _ => none) := by
  kernel_rfl
theorem aIndexAddr_vw {t : TypeId} {r f lo len sz : Nat} {k : IntKind} {n : Int} : aIndexAddr P t (.vw r f lo len sz) (.v (.int k n)) = optB (sElem P t) (fun e => ifP ((P.info? e).isSome = true ∧ sizeT P e = sz) (fun _ => some ([0 ≤ n, n < (len : Int)], .ptr r f (lo + n.toNat) sz 0)) (fun _ => none)) (fun _ => none) := by
  kernel_rfl
theorem aIndexAddr_bx {t : TypeId} {r q : Nat} {k : IntKind} {n : Int} : aIndexAddr P t (.bx r q) (.v (.int k n)) = optB (aElem P t) (fun le => ifP ((P.info? le.2).isSome = true) (fun _ => some ([0 ≤ n, n < (le.1 : Int)], .bx r (q + n.toNat * sizeT P le.2))) (fun _ => none)) (fun _ => none) := by
  kernel_rfl
theorem aIndexAddr_rop {t : TypeId} {cs : List AV} {k : IntKind} {n : Int} : aIndexAddr P t (.rop cs) (.v (.int k n)) = optB (aElem P t) (fun le => ifP ((P.info? le.2).isSome = true) (fun _ => some ([0 ≤ n, n < (le.1 : Int)], .rop (cs.drop (n.toNat * sizeT P le.2)))) (fun _ => none)) (fun _ => none) := by
  kernel_rfl
theorem aStep_makeFunc {f : FuncId} {cap : Array Operand} : aStep P G key g ⟨d, .makeFunc (.func f) #[] cap, ty, pos, af, gd⟩ ρ0 m = some ⟨[], .fn f (cap.toList.map fun x => strip (ρ0 x)), .none⟩ := rfl
theorem aStep_makeInterface {t : TypeId} {x : Operand} : aStep P G key g ⟨d, .makeInterface t x, ty, pos, af, gd⟩ ρ0 m = ifB (concreteT P t) (fun _ => some ⟨[], .iface t (strip (ρ0 x)), .none⟩) (fun _ => none) := by
  kernel_rfl
theorem aStep_extract {x : Operand} {i : Nat} : aStep P G key g ⟨d, .extract x i, ty, pos, af, gd⟩ ρ0 m = tupK (strip (ρ0 x)) (fun cs => effOf cs[i]?) (fun _ => effOf (aPure P (fun x => strip (ρ0 x)) ⟨d, .extract x i, ty, pos, af, gd⟩)) := by
  kernel_rfl
theorem aStep_nilCheck {x : Operand} : aStep P G key g ⟨d, .nilCheck x, ty, pos, af, gd⟩ ρ0 m = ifB (nonNil (strip (ρ0 x))) (fun _ => some ⟨[], strip (ρ0 x), .none⟩) (fun _ => effOf (aPure P (fun x => strip (ρ0 x)) ⟨d, .nilCheck x, ty, pos, af, gd⟩)) := by
  kernel_rfl
theorem aStep_assertOk {x : Operand} {it t : TypeId} : aStep P G key g ⟨d, .typeAssert x it t true, ty, pos, af, gd⟩ ρ0 m = ifcK (strip (ρ0 x)) (fun u y => ifB (concreteT P t) (fun _ => ifP (u = t) (fun _ => some ⟨[], .tup [y, .v (.bool true)], .none⟩) (fun _ => optB (zeroT P t) (fun z => some ⟨[], .tup [ofVal1 z, .v (.bool false)], .none⟩) (fun _ => none))) (fun _ => none)) (fun _ => effOf (aPure P (fun x => strip (ρ0 x)) ⟨d, .typeAssert x it t true, ty, pos, af, gd⟩)) := by
  kernel_rfl
theorem aStep_assert {x : Operand} {it t : TypeId} : aStep P G key g ⟨d, .typeAssert x it t false, ty, pos, af, gd⟩ ρ0 m = ifcK (strip (ρ0 x)) (fun u y => ifB (concreteT P t) (fun _ => ifP (u = t) (fun _ => some ⟨[], y, .none⟩) (fun _ => none)) (fun _ => none)) (fun _ => effOf (aPure P (fun x => strip (ρ0 x)) ⟨d, .typeAssert x it t false, ty, pos, af, gd⟩)) := by
  kernel_rfl
theorem aStep_eql {t u : TypeId} {x y : Operand} : aStep P G key g ⟨d, .binOp .eql t x y u, ty, pos, af, gd⟩ ρ0 m = orElse (boolE true (ptrEq (ptrKind P t) (strip (ρ0 x)) (strip (ρ0 y)) m)) (optB (aEq P t (strip (ρ0 x)) (strip (ρ0 y))) (fun b => some ⟨[], .v (.bool b), .none⟩) (fun _ => effOf (aPure P (fun x => strip (ρ0 x)) ⟨d, .binOp .eql t x y u, ty, pos, af, gd⟩))) := by
  kernel_rfl
theorem aStep_neq {t u : TypeId} {x y : Operand} : aStep P G key g ⟨d, .binOp .neq t x y u, ty, pos, af, gd⟩ ρ0 m = orElse (boolE false (ptrEq (ptrKind P t) (strip (ρ0 x)) (strip (ρ0 y)) m)) (optB (aEq P t (strip (ρ0 x)) (strip (ρ0 y))) (fun b => some ⟨[], .v (.bool (!b)), .none⟩) (fun _ => effOf (aPure P (fun x => strip (ρ0 x)) ⟨d, .binOp .neq t x y u, ty, pos, af, gd⟩))) := by
  kernel_rfl
noncomputable def lenNew (P : Program) (m : Mem) (t : TypeId) (a : AV) : Option Eff := match a with
  | .mp r f => mapLen f (mapLay P t) (look m r)
  | .rm _ L => match mapLay P t with
    | some _ => some ⟨[], .v (.int .i64 L.length), .none⟩
    | none => none
  | _ => none
theorem aOld_len {a : Operand} {t : TypeId} : aOld P G key g ⟨d, .call ⟨.builtin .len, #[a], #[t]⟩, ty, pos, af, gd⟩ ρ0 m = optB (lenA (strip (ρ0 a))) (fun n => optB (sElem P t) (fun _ => some ⟨[], .v (.int .i64 n), .none⟩) (fun _ => none)) (fun _ => effOf (aPure P (fun x => strip (ρ0 x)) ⟨d, .call ⟨.builtin .len, #[a], #[t]⟩, ty, pos, af, gd⟩)) := by
  kernel_rfl
theorem aStep_len {a : Operand} {t : TypeId} : aStep P G key g ⟨d, .call ⟨.builtin .len, #[a], #[t]⟩, ty, pos, af, gd⟩ ρ0 m = orElse (lenNew P m t (strip (ρ0 a))) (optB (lenA (strip (ρ0 a))) (fun n => optB (sElem P t) (fun _ => some ⟨[], .v (.int .i64 n), .none⟩) (fun _ => none)) (fun _ => effOf (aPure P (fun x => strip (ρ0 x)) ⟨d, .call ⟨.builtin .len, #[a], #[t]⟩, ty, pos, af, gd⟩))) := by
  have h : aNew P key g ⟨d, .call ⟨.builtin .len, #[a], #[t]⟩, ty, pos, af, gd⟩ ρ0 m = lenNew P m t (strip (ρ0 a)) := by
    unfold aNew lenNew
    dsimp only [List.map]
    cases strip (ρ0 a) <;> rfl
  unfold aStep
  rw [h, aOld_len]
  unfold orElse
  cases lenNew P m t (strip (ρ0 a)) <;> rfl
theorem aStep_call {f : Operand} {args : Array Operand} {ats : Array TypeId} : aStep P G key g ⟨d, .call ⟨.value f, args, ats⟩, ty, pos, af, gd⟩ ρ0 m = fnK (strip (ρ0 f)) (fun h cap => optB (mutOf (ctxGet G h)) (fun c => aMut g (c key m (args.toList.map (fun x => strip (ρ0 x)) ++ cap))) (fun _ => effOf2 (aCall G h (args.toList.map (fun x => strip (ρ0 x)) ++ cap) m))) (fun _ => none) := by
  kernel_rfl
theorem aStep_unOp {op : UnOp} {t : TypeId} {x : Operand} : aStep P G key g ⟨d, .unOp op t x, ty, pos, af, gd⟩ ρ0 m = effOf (aPure P (fun x => strip (ρ0 x)) ⟨d, .unOp op t x, ty, pos, af, gd⟩) := rfl

theorem aStep_min {args : Array Operand} {ats : Array TypeId} : aStep P G key g ⟨d, .call ⟨.builtin .min, args, ats⟩, ty, pos, af, gd⟩ ρ0 m = effOf (aPure P (fun x => strip (ρ0 x)) ⟨d, .call ⟨.builtin .min, args, ats⟩, ty, pos, af, gd⟩) := rfl
theorem aStep_max {args : Array Operand} {ats : Array TypeId} : aStep P G key g ⟨d, .call ⟨.builtin .max, args, ats⟩, ty, pos, af, gd⟩ ρ0 m = effOf (aPure P (fun x => strip (ρ0 x)) ⟨d, .call ⟨.builtin .max, args, ats⟩, ty, pos, af, gd⟩) := rfl
theorem aStep_convert {a b : TypeId} {x : Operand} : aStep P G key g ⟨d, .convert a b x, ty, pos, af, gd⟩ ρ0 m = effOf (aPure P (fun x => strip (ρ0 x)) ⟨d, .convert a b x, ty, pos, af, gd⟩) := rfl

/-! ### Whole numbers -/

end
end
end Go.Ax
end

section
/-
  The evaluator ars a machine: continuations are data.
-/
set_option linter.unusedVariables false
namespace Go.Ax

inductive Fr where
  | seq (c : Code)
  | block (id : Nat)

section
variable (P : Program) (G : Ctx) (H : Hots) (K0 : AEx → St → Prop)

def kOf : List Fr → AEx → St → Prop
  | [] => K0
  | .seq c :: st => seqK (kOf st) fun s' => awp P G H c s' (kOf st)
  | .block id :: st => blockK id (kOf st)

def goC (c : Code) (st : List Fr) (s : St) : Prop := awp P G H c s (kOf P G H K0 st)
def retC (e : AEx) (st : List Fr) (s : St) : Prop := kOf P G H K0 st e s
/-- In a region: the operations that are left; the number of the next one; the state; the key of the region's first one. -/
def regC (hot : Option Hot) (ops : Array Oper) (rest : List Oper) (i : Nat) (st : List Fr) (t : Slots) (m : Mem) (nx : Nat) : Prop :=
  regP P G hot ops nx rest i ⟨t, m, nx⟩ fun s' => kOf P G H K0 st .normal { s' with nx := s'.nx + ops.size }
/-- An operation has been met: what came of it. -/
def stepC (hot : Option Hot) (ops : Array Oper) (dst : Option Tmp) (rest : List Oper) (i : Nat) (st : List Fr) (t : Slots) (m : Mem) (nx : Nat) (x : Option Eff) : Prop :=
  optK x fun e => boolK (rootOK hot nx i t e.u) (conj e.ob (regC P G H K0 hot ops rest (i + 1) st (putSlot dst e.val t) (e.u.app (nx + i) m) nx))
def rootC (hot : Option Hot) (ops : Array Oper) (rest : List Oper) (i : Nat) (st : List Fr) (nx : Nat) (ob : List Prop) (t : Slots) (m : Mem) (b : Bool) : Prop :=
  boolK b (conj ob (regC P G H K0 hot ops rest (i + 1) st t m nx))
def condC (b : Option Bool) (x y : Code) (st : List Fr) (s : St) : Prop := optK b fun b => (b = true → goC P G H K0 x st s) ∧ (b = false → goC P G H K0 y st s)
def exitC (j : Nat) (st : List Fr) (s : St) (b : Bool) : Prop := match b with
  | true => retC P G H K0 .normal st s
  | false => retC P G H K0 (.exit j) st s
variable {P G H K0} {st : List Fr} {s : St} {hot : Option Hot} {ops : Array Oper} {rest : List Oper} {i : Nat} {t : Slots} {m : Mem} {nx : Nat}

theorem goC_seq {a b : Code} : goC P G H K0 (.seq a b) st s = goC P G H K0 a (.seq b :: st) s := (rfl)
theorem goC_block {id : Nat} {c : Code} : goC P G H K0 (.block id c) st s = goC P G H K0 c (.block id :: st) s := (rfl)
theorem goC_skip : goC P G H K0 .skip st s = retC P G H K0 .normal st s := (rfl)
theorem goC_ret : goC P G H K0 .ret st s = retC P G H K0 .ret st s := (rfl)
theorem goC_scope {c : Code} : goC P G H K0 (.scope c) st s = goC P G H K0 c st s := (rfl)
theorem goC_label {j : Nat} : goC P G H K0 (.label j) st s = retC P G H K0 .normal st s := (rfl)
theorem goC_exit {j : Nat} : goC P G H K0 (.exit j) st s = retC P G H K0 (.exit j) st s := (rfl)
theorem goC_cond {c : Operand} {x y : Code} : goC P G H K0 (.cond c x y) st s = condC P G H K0 (boolOf (opd s.t c)) x y st s := (rfl)
theorem retC_nseq {c : Code} : retC P G H K0 .normal (.seq c :: st) s = goC P G H K0 c st s := (rfl)
theorem retC_rseq {c : Code} : retC P G H K0 .ret (.seq c :: st) s = retC P G H K0 .ret st s := (rfl)
theorem retC_eseq {j : Nat} {c : Code} : retC P G H K0 (.exit j) (.seq c :: st) s = retC P G H K0 (.exit j) st s := (rfl)
theorem retC_nblock {id : Nat} : retC P G H K0 .normal (.block id :: st) s = retC P G H K0 .normal st s := (rfl)
theorem retC_rblock {id : Nat} : retC P G H K0 .ret (.block id :: st) s = retC P G H K0 .ret st s := (rfl)
theorem retC_eblock {j id : Nat} : retC P G H K0 (.exit j) (.block id :: st) s = exitC P G H K0 j st s (decide (j = id)) := by
  show (if j = id then kOf P G H K0 st .normal s else kOf P G H K0 st (.exit j) s) = _
  unfold exitC retC
  by_cases h : j = id <;> simp [h]
theorem exitC_true {j : Nat} : exitC P G H K0 j st s true = retC P G H K0 .normal st s := (rfl)
theorem exitC_false {j : Nat} : exitC P G H K0 j st s false = retC P G H K0 (.exit j) st s := (rfl)
theorem retC_nil {e : AEx} : retC P G H K0 e [] s = K0 e s := (rfl)
theorem condC_some {b : Bool} {x y : Code} : condC P G H K0 (some b) x y st s = ((b = true → goC P G H K0 x st s) ∧ (b = false → goC P G H K0 y st s)) := (rfl)
theorem goC_region {id : Nat} {draw : Bool} : goC P G H K0 (.region id ops draw) st ⟨t, m, nx⟩ = regC P G H K0 (hotOf H id draw) ops ops.toList 0 st t m nx := by
  show regP P G _ ops nx ops.toList 0 _ _ = _
  unfold regC
  have key : ∀ (rest : List Oper) (i : Nat) (s : St), s.nx = nx → ∀ K1 K2 : St → Prop, (∀ s', s'.nx = nx → K1 s' = K2 s') → regP P G (hotOf H id draw) ops nx rest i s K1 = regP P G (hotOf H id draw) ops nx rest i s K2 := by
    intro rest
    induction rest with
    | nil => intro i s hs K1 K2 h; exact h s hs
    | cons o rest ih =>
      intro i s hs K1 K2 h
      simp only [regP, optK, boolK]
      cases stepE P G ops (nx + i) o s.t (memFor (hotOf H id draw) nx i o s.t s.m) with
      | none => rfl
      | some e =>
        dsimp only
        rw [ih (i + 1) _ (by exact hs) K1 K2 h]
  exact key _ _ _ rfl _ _ fun s' hs' => by show kOf P G H K0 st .normal _ = kOf P G H K0 st .normal _; rw [hs']
theorem regC_nil : regC P G H K0 hot ops [] i st t m nx = retC P G H K0 .normal st ⟨t, m, nx + ops.size⟩ := (rfl)
theorem regC_cons {d : Option Tmp} {op : Op} {ty : TypeId} {pos : String} {af : Array Edge} {gd : Option (Nat × Bool)} : regC P G H K0 hot ops (⟨d, op, ty, pos, af, gd⟩ :: rest) i st t m nx =
    stepC P G H K0 hot ops d rest i st t m nx (stepE P G ops (nx + i) ⟨d, op, ty, pos, af, gd⟩ t (memFor hot nx i ⟨d, op, ty, pos, af, gd⟩ t m)) := rfl
end
end Go.Ax
end

section
namespace Go.Ax
section
variable {P : Program} {G : Ctx} {key : Nat} {m : Mem} {d : Option Tmp} {ty : TypeId} {pos : String} {af : Array Edge} {gd : Option (Nat × Bool)} {g : Option Bool} {ρ0 : Operand → AV}

def intsOf : List AV → Option (List Int)
  | [] => some []
  | .v (.int .i64 n) :: rest => match intsOf rest with
    | some l => some (n :: l)
    | none => none
  | _ => none
def gmax (x y : Int) : Int := if y > x then y else x
def gmin (x y : Int) : Int := if y < x then y else x
theorem intsOf_flat : ∀ {q : List AV} {l : List Int}, intsOf q = some l → q.map (fun a => (flat a).getD undef) = l.map (.int .i64 ·) ∧ flatAll q = true
  | [], l, h => by cases h; exact ⟨rfl, rfl⟩
  | a :: rest, l, h => by
    unfold intsOf at h
    split at h
    · rename_i e; cases e
    · rename_i n r e
      cases e
      split at h
      · rename_i l' h'
        cases h
        obtain ⟨h1, h2⟩ := intsOf_flat h'
        refine ⟨?_, h2⟩
        rw [List.map_cons, List.map_cons, h1]
        rfl
      · cases h
    · cases h
theorem max_fold : ∀ (l : List Int) (x : Int), (l.map (Value.int .i64 ·)).foldlM Builtin.max2 (.int .i64 x) = (Sem.pure (.int .i64 (l.foldl gmax x)) : Sem Value)
  | [], x => rfl
  | y :: l, x => by
    rw [List.map_cons, List.foldlM_cons, List.foldl_cons, ← max_fold l (gmax x y)]
    rfl
theorem min_fold : ∀ (l : List Int) (x : Int), (l.map (Value.int .i64 ·)).foldlM Builtin.min2 (.int .i64 x) = (Sem.pure (.int .i64 (l.foldl gmin x)) : Sem Value)
  | [], x => rfl
  | y :: l, x => by
    rw [List.map_cons, List.foldlM_cons, List.foldl_cons, ← min_fold l (gmin x y)]
    rfl

theorem builtin_pure {b : Builtin} {args : Array Operand} {ats : Array TypeId} {l : List Int} (hl : intsOf (args.toList.map fun x => strip (ρ0 x)) = some l) {v : Value}
    (hv : Go.builtin b ats ty (args.map fun | .const _ => true | _ => false) (l.map (Value.int .i64 ·)).toArray = Sem.pure (.value v)) :
    aPure P (fun x => strip (ρ0 x)) ⟨d, .call ⟨.builtin b, args, ats⟩, ty, pos, af, gd⟩ = some (ofVal v) := by
  obtain ⟨h1, h2⟩ := intsOf_flat hl
  have ho : (Op.call ⟨.builtin b, args, ats⟩).operands.toList = args.toList := by simp [Op.operands, Call.operands]
  unfold aPure
  dsimp only
  rw [ho, h2]
  dsimp only
  have he : args.map (fun x => (flat (strip (ρ0 x))).getD undef) = (l.map (Value.int .i64 ·)).toArray := by
    apply Array.ext'
    rw [Array.toList_map, ← h1, List.map_map]
    rfl
  have : execOp (fun x => (flat (strip (ρ0 x))).getD undef) ⟨d, .call ⟨.builtin b, args, ats⟩, ty, pos, af, gd⟩ = Sem.pure (.value v) := by
    rw [← hv, ← he]
    rfl
  rw [this]
  rfl

theorem aStep_max' {args : Array Operand} {ats : Array TypeId} : aStep P G key g ⟨d, .call ⟨.builtin .max, args, ats⟩, ty, pos, af, gd⟩ ρ0 m =
    optB (intsOf (args.toList.map fun x => strip (ρ0 x))) (fun l => match l with
      | x :: l => some ⟨[], .v (.int .i64 (l.foldl gmax x)), .none⟩
      | [] => effOf (aPure P (fun x => strip (ρ0 x)) ⟨d, .call ⟨.builtin .max, args, ats⟩, ty, pos, af, gd⟩)) (fun _ => effOf (aPure P (fun x => strip (ρ0 x)) ⟨d, .call ⟨.builtin .max, args, ats⟩, ty, pos, af, gd⟩)) := by
  rw [aStep_max]
  cases h : intsOf (args.toList.map fun x => strip (ρ0 x)) with
  | none => rfl
  | some l =>
    cases l with
    | nil => rfl
    | cons x l =>
      rw [builtin_pure h (v := .int .i64 (l.foldl gmax x)) (by
        show (Sem.bind (Builtin.max_ ats ty _) fun v => Sem.pure (Next.value v)) = _
        show (Sem.bind ((l.map (Value.int .i64 ·)).foldlM Builtin.max2 (.int .i64 x)) fun v => Sem.pure (Next.value v)) = _
        rw [max_fold]; rfl)]
      rfl
theorem aStep_min' {args : Array Operand} {ats : Array TypeId} : aStep P G key g ⟨d, .call ⟨.builtin .min, args, ats⟩, ty, pos, af, gd⟩ ρ0 m =
    optB (intsOf (args.toList.map fun x => strip (ρ0 x))) (fun l => match l with
      | x :: l => some ⟨[], .v (.int .i64 (l.foldl gmin x)), .none⟩
      | [] => effOf (aPure P (fun x => strip (ρ0 x)) ⟨d, .call ⟨.builtin .min, args, ats⟩, ty, pos, af, gd⟩)) (fun _ => effOf (aPure P (fun x => strip (ρ0 x)) ⟨d, .call ⟨.builtin .min, args, ats⟩, ty, pos, af, gd⟩)) := by
  rw [aStep_min]
  cases h : intsOf (args.toList.map fun x => strip (ρ0 x)) with
  | none => rfl
  | some l =>
    cases l with
    | nil => rfl
    | cons x l =>
      rw [builtin_pure h (v := .int .i64 (l.foldl gmin x)) (by
        show (Sem.bind (Builtin.min_ ats ty _) fun v => Sem.pure (Next.value v)) = _
        show (Sem.bind ((l.map (Value.int .i64 ·)).foldlM Builtin.min2 (.int .i64 x)) fun v => Sem.pure (Next.value v)) = _
        rw [min_fold]; rfl)]
      rfl
end
end Go.Ax
end

section
/-
  The evaluator's equations, of first order: each says what a function of evaluated operands is.
-/
set_option linter.unusedVariables false
set_option linter.unusedSimpArgs false
namespace Go.Ax

/-- The value of an operation on whole numbers: to be named. -/
def nm (k : IntKind) (e : Int) : AV := .v (.int k e)
/-- The result of a call: what is in it is to be named. -/
def bnd (a : AV) : AV := a
def bndE : Option Eff → Option Eff
  | some ⟨ob, v, u⟩ => some ⟨ob, bnd v, u⟩
  | none => none

section
variable {P : Program} {G : Ctx} {H : Hots} {K0 : AEx → St → Prop} {st : List Fr} {s : St} {hot : Option Hot} {ops : Array Oper} {rest : List Oper} {i j k n sz len key base : Nat} {t : Slots} {m : Mem} {nx : Nat} {d : Option Tmp} {ty : TypeId} {pos : String} {af : Array Edge} {gd : Option (Nat × Bool)} {g : Option Bool} {ρ0 : Operand → AV} {a b : AV} {l : List AV} {cs : List AV}

/-! ### Operands -/
theorem opd_tmp : opd t (.tmp j) = slot t j := (rfl)
theorem opd_const {x : Value} : opd t (.const x) = .v x := (rfl)
theorem opd_global {q : Nat} : opd t (.global q) = .v (.pointer (some ⟨q, 0, none⟩)) := (rfl)
theorem opd_func {f : FuncId} : opd t (.func f) = .fn f [] := (rfl)
theorem slot_cons : slot ((k, a) :: t) j = if k = j then a else slot t j := (rfl)
theorem slot_nil : slot [] j = .v undef := (rfl)

theorem strip_v {x : Value} : strip (.v x) = .v x := (rfl)
theorem strip_any : strip .any = .any := (rfl)
theorem strip_agg : strip (.agg l) = .agg l := (rfl)
theorem strip_tup : strip (.tup l) = .tup l := (rfl)
theorem strip_ro {f : Nat → List AV} : strip (.ro n sz f) = .ro n sz f := (rfl)
theorem strip_rop : strip (.rop l) = .rop l := (rfl)
theorem strip_bx : strip (.bx n k) = .bx n k := (rfl)
theorem strip_ptr {r f i sz k : Nat} : strip (.ptr r f i sz k) = .ptr r f i sz k := (rfl)
theorem strip_own {r f n sz : Nat} : strip (.own r f n sz) = .own r f n sz := (rfl)
theorem strip_vw {r f lo n sz : Nat} : strip (.vw r f lo n sz) = .vw r f lo n sz := (rfl)
theorem strip_fn {f : FuncId} : strip (.fn f l) = .fn f l := (rfl)
theorem strip_iface {q : TypeId} : strip (.iface q a) = .iface q a := (rfl)
theorem strip_cond {c : Bool} : strip (.cond c a) = a := (rfl)

theorem needs_nil : needs [] = [] := (rfl)
theorem needs_v {x : Value} : needs (.v x :: l) = needs l := (rfl)
theorem needs_any : needs (.any :: l) = needs l := (rfl)
theorem needs_agg : needs (.agg cs :: l) = needs l := (rfl)
theorem needs_tup : needs (.tup cs :: l) = needs l := (rfl)
theorem needs_ro {f : Nat → List AV} : needs (.ro n sz f :: l) = needs l := (rfl)
theorem needs_rop : needs (.rop cs :: l) = needs l := (rfl)
theorem needs_bx : needs (.bx n k :: l) = needs l := (rfl)
theorem needs_ptr {r f i sz k : Nat} : needs (.ptr r f i sz k :: l) = needs l := (rfl)
theorem needs_own {r f n sz : Nat} : needs (.own r f n sz :: l) = needs l := (rfl)
theorem needs_vw {r f lo n sz : Nat} : needs (.vw r f lo n sz :: l) = needs l := (rfl)
theorem needs_fn {f : FuncId} : needs (.fn f cs :: l) = needs l := (rfl)
theorem needs_iface {q : TypeId} : needs (.iface q a :: l) = needs l := (rfl)
theorem needs_cond {c : Bool} : needs (.cond c a :: l) = (c = true) :: needs l := (rfl)

theorem conj_nil {p : Prop} : conj [] p = p := (rfl)
theorem conj_cons {p q : Prop} {ps : List Prop} : conj (p :: ps) q = (p ∧ conj ps q) := (rfl)

/-! ### Cells -/
theorem isCell_bool {x : Bool} : isCell (.v (.bool x)) = true := (rfl)
theorem isCell_int {q : IntKind} {x : Int} : isCell (.v (.int q x)) = true := (rfl)
theorem isCell_string {x : ByteArray} : isCell (.v (.string x)) = true := (rfl)
theorem isCell_pointer {x : Option Addr} : isCell (.v (.pointer x)) = true := (rfl)
theorem isCell_slice {x : Option Addr} : isCell (.v (.slice x n k)) = true := (rfl)
theorem isCell_map {x : Option Nat} : isCell (.v (.map x)) = true := (rfl)
theorem isCell_nilFunc : isCell (.v .nilFunc) = true := (rfl)
theorem isCell_nilIface : isCell (.v .nilIface) = true := (rfl)
theorem isCell_ro {f : Nat → List AV} : isCell (.ro n sz f) = true := (rfl)
theorem isCell_rop : isCell (.rop l) = true := (rfl)
theorem isCell_bx : isCell (.bx n k) = true := (rfl)
theorem isCell_ptr {r f i sz k : Nat} : isCell (.ptr r f i sz k) = true := (rfl)
theorem isCell_own {r f n sz : Nat} : isCell (.own r f n sz) = true := (rfl)
theorem isCell_vw {r f lo n sz : Nat} : isCell (.vw r f lo n sz) = true := (rfl)
theorem isCell_fn {f : FuncId} : isCell (.fn f l) = true := (rfl)
theorem isCell_iface {q : TypeId} : isCell (.iface q a) = true := (rfl)
theorem allCells_nil : allCells [] = true := (rfl)
theorem allCells_cons : allCells (a :: l) = (isCell a && allCells l) := by
  rw [allCells]
  cases isCell a <;> rfl
def cellsAgg (c : Bool) (l : List AV) : Option (List AV) := match c with
  | true => some l
  | false => none
theorem cellsAgg_true : cellsAgg true l = some l := (rfl)
theorem cellsOf_agg : cellsOf (.agg l) = cellsAgg (allCells l) l := by
  kernel_rfl
theorem cellsOf_bool {x : Bool} : cellsOf (.v (.bool x)) = some [.v (.bool x)] := (rfl)
theorem cellsOf_int {q : IntKind} {x : Int} : cellsOf (.v (.int q x)) = some [.v (.int q x)] := (rfl)
theorem cellsOf_string {x : ByteArray} : cellsOf (.v (.string x)) = some [.v (.string x)] := (rfl)
theorem cellsOf_pointer {x : Option Addr} : cellsOf (.v (.pointer x)) = some [.v (.pointer x)] := (rfl)
theorem cellsOf_slice {x : Option Addr} : cellsOf (.v (.slice x n k)) = some [.v (.slice x n k)] := (rfl)
theorem cellsOf_map {x : Option Nat} : cellsOf (.v (.map x)) = some [.v (.map x)] := (rfl)
theorem cellsOf_nilFunc : cellsOf (.v .nilFunc) = some [.v .nilFunc] := (rfl)
theorem cellsOf_nilIface : cellsOf (.v .nilIface) = some [.v .nilIface] := (rfl)
theorem cellsOf_ro {f : Nat → List AV} : cellsOf (.ro n sz f) = some [.ro n sz f] := (rfl)
theorem cellsOf_rop : cellsOf (.rop l) = some [.rop l] := (rfl)
theorem cellsOf_bx : cellsOf (.bx n k) = some [.bx n k] := (rfl)
theorem cellsOf_ptr {r f i sz k : Nat} : cellsOf (.ptr r f i sz k) = some [.ptr r f i sz k] := (rfl)
theorem cellsOf_own {r f n sz : Nat} : cellsOf (.own r f n sz) = some [.own r f n sz] := (rfl)
theorem cellsOf_vw {r f lo n sz : Nat} : cellsOf (.vw r f lo n sz) = some [.vw r f lo n sz] := (rfl)
theorem cellsOf_fn {f : FuncId} : cellsOf (.fn f l) = some [.fn f l] := (rfl)
theorem cellsOf_iface {q : TypeId} : cellsOf (.iface q a) = some [.iface q a] := (rfl)

def ofC (x : Option (Bool × Nat)) (cs : List AV) : Option AV := match x with
  | some (true, n) => if n ≤ cs.length then some (.agg (cs.take n)) else none
  | some (false, _) => match cs with
    | c :: _ => some c
    | [] => none
  | none => none
theorem ofCells_eq : ofCells P ty cs = ofC (layT P ty) cs := by
  kernel_rfl
theorem ofC_agg : ofC (some (true, n)) cs = if n ≤ cs.length then some (.agg (cs.take n)) else none := (rfl)
theorem ofC_one : ofC (some (false, n)) (a :: cs) = some a := (rfl)

/-! ### A region -/
def withOb (l : List Prop) (x : Option Eff) : Option Eff := match x with
  | some ⟨ob, v, u⟩ => some ⟨l ++ ob, v, u⟩
  | none => none
theorem withOb_some {q ob : List Prop} {u : Upd} : withOb q (some ⟨ob, a, u⟩) = some ⟨q ++ ob, a, u⟩ := (rfl)
def owedL (p : Bool) (l : List AV) : List Prop := match p with
  | true => []
  | false => needs l
theorem owedL_true : owedL true l = [] := (rfl)
theorem owedL_false : owedL false l = needs l := (rfl)
theorem owed_L {op : Op} {ρ : Operand → AV} : owed ⟨d, op, ty, pos, af, gd⟩ ρ = owedL (isPick op) (op.operands.toList.map ρ) := by
  unfold owed owedL
  dsimp only
  cases isPick op <;> rfl
/-- What an operation's operands owe. -/
def owedV (t : Slots) (op : Op) : List Prop := owedL (isPick op) (op.operands.toList.map (opd t))
section
variable {x y z : Operand}
theorem owedV_move : owedV t (.move x) = needs [opd t x] := (rfl)
theorem owedV_assign : owedV t (.assign x) = needs [opd t x] := (rfl)
theorem owedV_pick : owedV t (.pick x y z) = [] := (rfl)
theorem owedV_alloc : owedV t (.alloc ty) = [] := (rfl)
theorem owedV_box : owedV t (.box ty x) = needs [opd t x] := (rfl)
def rawP (t : Slots) : List (Nat × Operand) → List AV
  | [] => []
  | (_, x) :: r => opd t x :: rawP t r
theorem rawP_eq : ∀ {l : List (Nat × Operand)}, (l.map (·.2)).map (opd t) = rawP t l
  | [] => rfl
  | (_, x) :: l => by rw [List.map_cons, List.map_cons, rawP_eq]; rfl
theorem rawP_nil : rawP t [] = [] := (rfl)
theorem rawP_cons {r : List (Nat × Operand)} : rawP t ((i, x) :: r) = opd t x :: rawP t r := (rfl)
def rawV (t : Slots) : List Operand → List AV
  | [] => []
  | x :: r => opd t x :: rawV t r
theorem rawV_eq : ∀ {l : List Operand}, l.map (opd t) = rawV t l
  | [] => rfl
  | x :: l => by rw [List.map_cons, rawV_eq]; rfl
theorem rawV_nil : rawV t [] = [] := (rfl)
theorem rawV_cons {r : List Operand} : rawV t (x :: r) = opd t x :: rawV t r := (rfl)
theorem owedV_build {l : List (Nat × Operand)} : owedV t (.build ty l.toArray) = needs (rawP t l) := by rw [← rawP_eq]; rfl
theorem owedV_buildSlice {l : List (Nat × Operand)} : owedV t (.buildSlice ty n l.toArray) = needs (rawP t l) := by rw [← rawP_eq]; rfl
theorem owedV_load : owedV t (.load ty x) = needs [opd t x] := (rfl)
theorem owedV_store : owedV t (.store ty x y) = needs [opd t x, opd t y] := (rfl)
theorem owedV_nilCheck : owedV t (.nilCheck x) = needs [opd t x] := (rfl)
theorem owedV_binOp {op : BinOp} {u : TypeId} : owedV t (.binOp op ty x y u) = needs [opd t x, opd t y] := (rfl)
theorem owedV_unOp {op : UnOp} : owedV t (.unOp op ty x) = needs [opd t x] := (rfl)
theorem owedV_convert {u : TypeId} : owedV t (.convert ty u x) = needs [opd t x] := (rfl)
theorem owedV_makeInterface : owedV t (.makeInterface ty x) = needs [opd t x] := (rfl)
theorem owedV_makeFunc {f : Fn} {l : List Operand} : owedV t (.makeFunc f #[] l.toArray) = needs (rawV t l) := by
  rw [← rawV_eq]; simp [owedV, owedL, isPick, Op.operands]
theorem owedV_makeSlice : owedV t (.makeSlice ty x y) = needs [opd t x, opd t y] := (rfl)
theorem owedV_slice {lo hi mx : Option Operand} : owedV t (.slice ty x lo hi mx) = needs (opd t x :: (rawV t lo.toList ++ rawV t hi.toList ++ rawV t mx.toList)) := by
  rw [← rawV_eq, ← rawV_eq, ← rawV_eq]; simp [owedV, owedL, isPick, Op.operands]
theorem owedV_fieldAddr {f : Nat} : owedV t (.fieldAddr ty x f) = needs [opd t x] := (rfl)
theorem owedV_field {f : Nat} : owedV t (.field ty x f) = needs [opd t x] := (rfl)
theorem owedV_indexAddr : owedV t (.indexAddr ty x y) = needs [opd t x, opd t y] := (rfl)
theorem owedV_index : owedV t (.index ty x y) = needs [opd t x, opd t y] := (rfl)
theorem owedV_typeAssert {u : TypeId} {c : Bool} : owedV t (.typeAssert x ty u c) = needs [opd t x] := (rfl)
theorem owedV_extract : owedV t (.extract x i) = needs [opd t x] := (rfl)
theorem owedV_callB {f : Builtin} {l : List Operand} {q : Array TypeId} : owedV t (.call ⟨.builtin f, l.toArray, q⟩) = needs (rawV t l) := by
  rw [← rawV_eq]; simp [owedV, owedL, isPick, Op.operands, Call.operands]
theorem owedV_callV {l : List Operand} {q : Array TypeId} : owedV t (.call ⟨.value x, l.toArray, q⟩) = needs (opd t x :: rawV t l) := by
  rw [← rawV_eq]; simp [owedV, owedL, isPick, Op.operands, Call.operands]
theorem owedV_callI {f : String} {l : List Operand} {q : Array TypeId} : owedV t (.call ⟨.invoke x f, l.toArray, q⟩) = needs (opd t x :: rawV t l) := by
  rw [← rawV_eq]; simp [owedV, owedL, isPick, Op.operands, Call.operands]
end
theorem regC_free {op : Op} : regC P G H K0 hot ops (⟨d, op, ty, pos, af, none⟩ :: rest) i st t m nx =
    stepC P G H K0 hot ops d rest i st t m nx (withOb (owedV t op) (aStep P G (nx + i) none ⟨d, op, ty, pos, af, none⟩ (opd t) (memFor hot nx i ⟨d, op, ty, pos, af, none⟩ t m))) := by
  rw [regC_cons, stepE_free1]
  congr 1
  unfold owedV
  rw [← owed_L]
  cases aStep P G (nx + i) none ⟨d, op, ty, pos, af, none⟩ (opd t) (memFor hot nx i ⟨d, op, ty, pos, af, none⟩ t m) <;> rfl
def condV (b : Bool) (v : AV) : AV := .cond b v
/-- An effect only if so. -/
def guardW (b : Bool) (ob : List Prop) (v : AV) (u : Upd) : Option Eff := some ⟨ob.map (b = true → ·), condV b v, u.when b⟩
def guardM (b c : Bool) (ob : List Prop) (v : AV) (u : Upd) : Option Eff := match c with
  | true => some ⟨ob.map (b = true → ·), condV b v, u⟩
  | false => guardW b ob v u
theorem guardM_false {b : Bool} {ob : List Prop} {u : Upd} : guardM b false ob a u = guardW b ob a u := (rfl)
theorem conj_mapT : ∀ {l : List Prop} {p : Prop}, conj (l.map (true = true → ·)) p = conj l p
  | [], p => rfl
  | q :: l, p => by
    simp only [List.map_cons, conj, conj_mapT]
    simp
theorem conj_mapF : ∀ {l : List Prop} {p : Prop}, conj (l.map (false = true → ·)) p = p
  | [], p => rfl
  | q :: l, p => by
    simp only [List.map_cons, conj, conj_mapF]
    simp
theorem stepC_W {b : Bool} {ob : List Prop} {u : Upd} : stepC P G H K0 hot ops d rest i st t m nx (guardW b ob a u) =
    ((b = true → stepC P G H K0 hot ops d rest i st t m nx (some ⟨ob, condV true a, u⟩)) ∧ (b = false → stepC P G H K0 hot ops d rest i st t m nx (some ⟨[], condV false a, .none⟩))) := by
  cases b with
  | true =>
    simp only [true_imp_iff, reduceCtorEq, false_imp_iff, and_true]
    unfold guardW stepC optK Upd.when
    dsimp only
    rw [conj_mapT]
  | false =>
    simp only [true_imp_iff, reduceCtorEq, false_imp_iff, true_and]
    unfold guardW stepC optK Upd.when
    dsimp only
    rw [conj_mapF]
    rfl
theorem guardM_true {b : Bool} {ob : List Prop} {u : Upd} : guardM b true ob a u = some ⟨ob.map (b = true → ·), condV b a, u⟩ := (rfl)
def guardE (b : Bool) (l : List Prop) (x : Option Eff) : Option Eff := match x with
  | some ⟨ob, v, u⟩ => guardM b u.mild (l ++ ob) v u
  | none => none
theorem guardE_some {b : Bool} {q ob : List Prop} {u : Upd} : guardE b q (some ⟨ob, a, u⟩) = guardM b u.mild (q ++ ob) a u := (rfl)
noncomputable def guardS (P : Program) (G : Ctx) (key : Nat) (o : Oper) (t : Slots) (m : Mem) (x : Option Bool) : Option Eff := match x with
  | some b => guardE b (owed o (opd t)) (aStep P G key (some b) o (opd t) m)
  | none => none
theorem guardS_some {b : Bool} {op : Op} : guardS P G key ⟨d, op, ty, pos, af, gd⟩ t m (some b) = guardE b (owedV t op) (aStep P G key (some b) ⟨d, op, ty, pos, af, gd⟩ (opd t) m) := by
  unfold owedV
  rw [← owed_L]; rfl
theorem regC_guard {op : Op} {q : Nat × Bool} : regC P G H K0 hot ops (⟨d, op, ty, pos, af, some q⟩ :: rest) i st t m nx =
    stepC P G H K0 hot ops d rest i st t m nx (guardS P G (nx + i) ⟨d, op, ty, pos, af, some q⟩ t (memFor hot nx i ⟨d, op, ty, pos, af, some q⟩ t m) (guardOf ops (slot t) q)) := by
  rw [regC_cons, stepE_guard1]
  congr 1
  unfold guardS
  cases guardOf ops (slot t) q with
  | none => rfl
  | some b =>
    simp only [optB]
    cases aStep P G (nx + i) (some b) ⟨d, op, ty, pos, af, some q⟩ (opd t) (memFor hot nx i ⟨d, op, ty, pos, af, some q⟩ t m) with
    | none => rfl
    | some e =>
      obtain ⟨ob, v, u⟩ := e
      simp only [guardE, guardM, guardW, ifB, condV]
      all_goals (cases u.mild <;> rfl)
/-- A guard's value. -/
def gval (w : Bool) (x : AV) : Option Bool := match x with
  | .v (.bool b) => some (match w with | true => b | false => !b)
  | .cond c (.v (.bool b)) => some (c && (match w with | true => b | false => !b))
  | _ => none
def gslot (w : Bool) (sl : Nat → AV) (x : Option Oper) : Option Bool := match x with
  | some ⟨some d, _, _, _, _, _⟩ => gval w (sl d)
  | _ => none
theorem gslot_some {w : Bool} {sl : Nat → AV} {q : Tmp} {op : Op} : gslot w sl (some ⟨some q, op, ty, pos, af, gd⟩) = gval w (sl q) := (rfl)
theorem guardOf_eq {sl : Nat → AV} {q : Nat} {w : Bool} : guardOf ops sl (q, w) = gslot w sl ops[q]? := by
  unfold guardOf gslot gval
  dsimp only
  cases ops[q]? with
  | none => rfl
  | some o =>
    obtain ⟨d, op, ty, pos, af, gd⟩ := o
    cases d <;> rfl
theorem gval_t {x : Bool} : gval true (.v (.bool x)) = some x := (rfl)
theorem gval_f {x : Bool} : gval false (.v (.bool x)) = some (!x) := (rfl)
theorem gval_ct {c x : Bool} : gval true (.cond c (.v (.bool x))) = some (c && x) := (rfl)
theorem gval_cf {c x : Bool} : gval false (.cond c (.v (.bool x))) = some (c && !x) := (rfl)

theorem memFor_none {o : Oper} : memFor none base i o t m = m := (rfl)
theorem rootOK_none {u : Upd} : rootOK none base i t u = true := (rfl)
theorem hotOf_false {id : Nat} : hotOf H id false = none := (rfl)
theorem hotOf_true {id : Nat} : hotOf H id true = some (hotAt H id) := (rfl)

/-- What came of an operation goes into its slot; what is to be named is named. -/
def bindC (P : Program) (G : Ctx) (H : Hots) (K0 : AEx → St → Prop) (hot : Option Hot) (ops : Array Oper) (d : Option Tmp) (rest : List Oper) (i : Nat) (st : List Fr) (t : Slots) (m : Mem) (nx : Nat) (ob : List Prop) (u : Upd) (a : AV) : Prop :=
  rootC P G H K0 hot ops rest i st nx ob (putSlot d a t) (u.app (nx + i) m) (rootOK hot nx i t u)
theorem stepC_eff {ob : List Prop} {u : Upd} : stepC P G H K0 hot ops d rest i st t m nx (some ⟨ob, a, u⟩) = bindC P G H K0 hot ops d rest i st t m nx ob u a := (rfl)
theorem bindC_nm {ob : List Prop} {u : Upd} {q : IntKind} {e : Int} : bindC P G H K0 hot ops d rest i st t m nx ob u (nm q e) = ∀ z, z = e → bindC P G H K0 hot ops d rest i st t m nx ob u (.v (.int q z)) := by
  simp only [forall_eq]; rfl
theorem bindC_cnm {ob : List Prop} {u : Upd} {q : IntKind} {e : Int} {c : Bool} : bindC P G H K0 hot ops d rest i st t m nx ob u (condV c (nm q e)) = ∀ z, z = e → bindC P G H K0 hot ops d rest i st t m nx ob u (condV c (.v (.int q z))) := by
  simp only [forall_eq]; rfl
theorem bindC_v {ob : List Prop} {u : Upd} {x : Value} : bindC P G H K0 hot ops d rest i st t m nx ob u (.v x) = rootC P G H K0 hot ops rest i st nx ob (putSlot d (.v x) t) (u.app (nx + i) m) (rootOK hot nx i t u) := (rfl)
theorem bindC_any {ob : List Prop} {u : Upd} : bindC P G H K0 hot ops d rest i st t m nx ob u .any = rootC P G H K0 hot ops rest i st nx ob (putSlot d .any t) (u.app (nx + i) m) (rootOK hot nx i t u) := (rfl)
theorem bindC_agg {ob : List Prop} {u : Upd} : bindC P G H K0 hot ops d rest i st t m nx ob u (.agg l) = rootC P G H K0 hot ops rest i st nx ob (putSlot d (.agg l) t) (u.app (nx + i) m) (rootOK hot nx i t u) := (rfl)
theorem bindC_tup {ob : List Prop} {u : Upd} : bindC P G H K0 hot ops d rest i st t m nx ob u (.tup l) = rootC P G H K0 hot ops rest i st nx ob (putSlot d (.tup l) t) (u.app (nx + i) m) (rootOK hot nx i t u) := (rfl)
theorem bindC_ro {ob : List Prop} {u : Upd} {f : Nat → List AV} : bindC P G H K0 hot ops d rest i st t m nx ob u (.ro n sz f) = rootC P G H K0 hot ops rest i st nx ob (putSlot d (.ro n sz f) t) (u.app (nx + i) m) (rootOK hot nx i t u) := (rfl)
theorem bindC_rop {ob : List Prop} {u : Upd} : bindC P G H K0 hot ops d rest i st t m nx ob u (.rop l) = rootC P G H K0 hot ops rest i st nx ob (putSlot d (.rop l) t) (u.app (nx + i) m) (rootOK hot nx i t u) := (rfl)
theorem bindC_bx {ob : List Prop} {u : Upd} : bindC P G H K0 hot ops d rest i st t m nx ob u (.bx n k) = rootC P G H K0 hot ops rest i st nx ob (putSlot d (.bx n k) t) (u.app (nx + i) m) (rootOK hot nx i t u) := (rfl)
theorem bindC_ptr {ob : List Prop} {u : Upd} {r f j sz k : Nat} : bindC P G H K0 hot ops d rest i st t m nx ob u (.ptr r f j sz k) = rootC P G H K0 hot ops rest i st nx ob (putSlot d (.ptr r f j sz k) t) (u.app (nx + i) m) (rootOK hot nx i t u) := (rfl)
theorem bindC_own {ob : List Prop} {u : Upd} {r f n sz : Nat} : bindC P G H K0 hot ops d rest i st t m nx ob u (.own r f n sz) = rootC P G H K0 hot ops rest i st nx ob (putSlot d (.own r f n sz) t) (u.app (nx + i) m) (rootOK hot nx i t u) := (rfl)
theorem bindC_vw {ob : List Prop} {u : Upd} {r f lo n sz : Nat} : bindC P G H K0 hot ops d rest i st t m nx ob u (.vw r f lo n sz) = rootC P G H K0 hot ops rest i st nx ob (putSlot d (.vw r f lo n sz) t) (u.app (nx + i) m) (rootOK hot nx i t u) := (rfl)
theorem bindC_fn {ob : List Prop} {u : Upd} {f : FuncId} : bindC P G H K0 hot ops d rest i st t m nx ob u (.fn f l) = rootC P G H K0 hot ops rest i st nx ob (putSlot d (.fn f l) t) (u.app (nx + i) m) (rootOK hot nx i t u) := (rfl)
theorem bindC_iface {ob : List Prop} {u : Upd} {q : TypeId} : bindC P G H K0 hot ops d rest i st t m nx ob u (.iface q a) = rootC P G H K0 hot ops rest i st nx ob (putSlot d (.iface q a) t) (u.app (nx + i) m) (rootOK hot nx i t u) := (rfl)
theorem putSlot_some {q : Tmp} : putSlot (some q) a t = (q, a) :: t := (rfl)
theorem putSlot_none : putSlot none a t = t := (rfl)
theorem bindC_ite {ob : List Prop} {u : Upd} {p : Prop} [Decidable p] : bindC P G H K0 hot ops d rest i st t m nx ob u (bnd (if p then a else b)) =
    ((p → bindC P G H K0 hot ops d rest i st t m nx ob u (bnd a)) ∧ (¬ p → bindC P G H K0 hot ops d rest i st t m nx ob u (bnd b))) := by
  by_cases h : p <;> simp [h]

/-- The parts of an aggregate or a tuple are named one after the other. -/
def bindL (P : Program) (G : Ctx) (H : Hots) (K0 : AEx → St → Prop) (hot : Option Hot) (ops : Array Oper) (d : Option Tmp) (rest : List Oper) (i : Nat) (st : List Fr) (t : Slots) (m : Mem) (nx : Nat) (ob : List Prop) (u : Upd) (tag : Bool) (done todo : List AV) : Prop :=
  bindC P G H K0 hot ops d rest i st t m nx ob u (match tag with | true => .tup (done ++ todo) | false => .agg (done ++ todo))
theorem bindC_bint {ob : List Prop} {u : Upd} {q : IntKind} {e : Int} : bindC P G H K0 hot ops d rest i st t m nx ob u (bnd (.v (.int q e))) = ∀ z, z = e → bindC P G H K0 hot ops d rest i st t m nx ob u (.v (.int q z)) := by
  simp only [forall_eq]; rfl
theorem bindC_bbool {ob : List Prop} {u : Upd} {e : Bool} : bindC P G H K0 hot ops d rest i st t m nx ob u (bnd (.v (.bool e))) = ∀ z, z = e → bindC P G H K0 hot ops d rest i st t m nx ob u (.v (.bool z)) := by
  simp only [forall_eq]; rfl
theorem bindC_bnilI {ob : List Prop} {u : Upd} : bindC P G H K0 hot ops d rest i st t m nx ob u (bnd (.v .nilIface)) = bindC P G H K0 hot ops d rest i st t m nx ob u (.v .nilIface) := (rfl)
theorem bindC_bnilS {ob : List Prop} {u : Upd} {x : Option Addr} : bindC P G H K0 hot ops d rest i st t m nx ob u (bnd (.v (.slice x n k))) = bindC P G H K0 hot ops d rest i st t m nx ob u (.v (.slice x n k)) := (rfl)
theorem bindC_bro {ob : List Prop} {u : Upd} {f : Nat → List AV} : bindC P G H K0 hot ops d rest i st t m nx ob u (bnd (.ro n sz f)) = bindC P G H K0 hot ops d rest i st t m nx ob u (.ro n sz f) := (rfl)
theorem bindC_brop {ob : List Prop} {u : Upd} : bindC P G H K0 hot ops d rest i st t m nx ob u (bnd (.rop l)) = bindC P G H K0 hot ops d rest i st t m nx ob u (.rop l) := (rfl)
theorem bindC_bfn {ob : List Prop} {u : Upd} {f : FuncId} : bindC P G H K0 hot ops d rest i st t m nx ob u (bnd (.fn f l)) = bindC P G H K0 hot ops d rest i st t m nx ob u (.fn f l) := (rfl)
theorem bindC_biface {ob : List Prop} {u : Upd} {q : TypeId} : bindC P G H K0 hot ops d rest i st t m nx ob u (bnd (.iface q a)) = bindC P G H K0 hot ops d rest i st t m nx ob u (.iface q a) := (rfl)
theorem bindC_bagg {ob : List Prop} {u : Upd} : bindC P G H K0 hot ops d rest i st t m nx ob u (bnd (.agg l)) = bindL P G H K0 hot ops d rest i st t m nx ob u false [] l := (rfl)
theorem bindC_btup {ob : List Prop} {u : Upd} : bindC P G H K0 hot ops d rest i st t m nx ob u (bnd (.tup l)) = bindL P G H K0 hot ops d rest i st t m nx ob u true [] l := (rfl)
theorem bindL_int {ob : List Prop} {u : Upd} {tag : Bool} {q : IntKind} {e : Int} : bindL P G H K0 hot ops d rest i st t m nx ob u tag l (.v (.int q e) :: cs) = ∀ z, z = e → bindL P G H K0 hot ops d rest i st t m nx ob u tag (l ++ [.v (.int q z)]) cs := by
  simp only [forall_eq]
  unfold bindL
  simp only [List.append_assoc, List.singleton_append]
theorem bindL_bool {ob : List Prop} {u : Upd} {tag : Bool} {e : Bool} : bindL P G H K0 hot ops d rest i st t m nx ob u tag l (.v (.bool e) :: cs) = ∀ z, z = e → bindL P G H K0 hot ops d rest i st t m nx ob u tag (l ++ [.v (.bool z)]) cs := by
  simp only [forall_eq]
  unfold bindL
  simp only [List.append_assoc, List.singleton_append]
theorem bindL_skip {ob : List Prop} {u : Upd} {tag : Bool} : bindL P G H K0 hot ops d rest i st t m nx ob u tag l (a :: cs) = bindL P G H K0 hot ops d rest i st t m nx ob u tag (l ++ [a]) cs := by
  unfold bindL
  simp only [List.append_assoc, List.singleton_append]
theorem bindL_ro {ob : List Prop} {u : Upd} {tag : Bool} {f : Nat → List AV} : bindL P G H K0 hot ops d rest i st t m nx ob u tag l (.ro n sz f :: cs) = bindL P G H K0 hot ops d rest i st t m nx ob u tag (l ++ [.ro n sz f]) cs := bindL_skip
theorem bindL_nilS {ob : List Prop} {u : Upd} {tag : Bool} {x : Option Addr} : bindL P G H K0 hot ops d rest i st t m nx ob u tag l (.v (.slice x n k) :: cs) = bindL P G H K0 hot ops d rest i st t m nx ob u tag (l ++ [.v (.slice x n k)]) cs := bindL_skip
theorem bindL_nilI {ob : List Prop} {u : Upd} {tag : Bool} : bindL P G H K0 hot ops d rest i st t m nx ob u tag l (.v .nilIface :: cs) = bindL P G H K0 hot ops d rest i st t m nx ob u tag (l ++ [.v .nilIface]) cs := bindL_skip
theorem bindL_iface {ob : List Prop} {u : Upd} {tag : Bool} {q : TypeId} : bindL P G H K0 hot ops d rest i st t m nx ob u tag l (.iface q a :: cs) = bindL P G H K0 hot ops d rest i st t m nx ob u tag (l ++ [.iface q a]) cs := bindL_skip
theorem bindL_agg {ob : List Prop} {u : Upd} {tag : Bool} {q : List AV} : bindL P G H K0 hot ops d rest i st t m nx ob u tag l (.agg q :: cs) = bindL P G H K0 hot ops d rest i st t m nx ob u tag (l ++ [.agg q]) cs := bindL_skip
theorem bindL_nilT {ob : List Prop} {u : Upd} : bindL P G H K0 hot ops d rest i st t m nx ob u true l [] = bindC P G H K0 hot ops d rest i st t m nx ob u (.tup l) := by
  unfold bindL; simp
theorem bindL_nilA {ob : List Prop} {u : Upd} : bindL P G H K0 hot ops d rest i st t m nx ob u false l [] = bindC P G H K0 hot ops d rest i st t m nx ob u (.agg l) := by
  unfold bindL; simp
theorem bindC_cbint {ob : List Prop} {u : Upd} {c : Bool} {q : IntKind} {e : Int} : bindC P G H K0 hot ops d rest i st t m nx ob u (condV c (bnd (.v (.int q e)))) = ∀ z, z = e → bindC P G H K0 hot ops d rest i st t m nx ob u (condV c (.v (.int q z))) := by
  simp only [forall_eq]; rfl
theorem bindC_cbbool {ob : List Prop} {u : Upd} {c : Bool} {e : Bool} : bindC P G H K0 hot ops d rest i st t m nx ob u (condV c (bnd (.v (.bool e)))) = ∀ z, z = e → bindC P G H K0 hot ops d rest i st t m nx ob u (condV c (.v (.bool z))) := by
  simp only [forall_eq]; rfl
theorem bindC_cbagg {ob : List Prop} {u : Upd} {c : Bool} : bindC P G H K0 hot ops d rest i st t m nx ob u (condV c (bnd (.agg l))) = bindC P G H K0 hot ops d rest i st t m nx ob u (condV c (.agg l)) := (rfl)
theorem bindC_cbtup {ob : List Prop} {u : Upd} {c : Bool} : bindC P G H K0 hot ops d rest i st t m nx ob u (condV c (bnd (.tup l))) = bindC P G H K0 hot ops d rest i st t m nx ob u (condV c (.tup l)) := (rfl)
theorem bindC_kv {ob : List Prop} {u : Upd} {c : Bool} {x : Value} : bindC P G H K0 hot ops d rest i st t m nx ob u (condV c (.v x)) = rootC P G H K0 hot ops rest i st nx ob (putSlot d (.cond c (.v x)) t) (u.app (nx + i) m) (rootOK hot nx i t u) := (rfl)
theorem bindC_kany {ob : List Prop} {u : Upd} {c : Bool}  : bindC P G H K0 hot ops d rest i st t m nx ob u (condV c (.any)) = rootC P G H K0 hot ops rest i st nx ob (putSlot d (.cond c (.any)) t) (u.app (nx + i) m) (rootOK hot nx i t u) := (rfl)
theorem bindC_kagg {ob : List Prop} {u : Upd} {c : Bool}  : bindC P G H K0 hot ops d rest i st t m nx ob u (condV c (.agg l)) = rootC P G H K0 hot ops rest i st nx ob (putSlot d (.cond c (.agg l)) t) (u.app (nx + i) m) (rootOK hot nx i t u) := (rfl)
theorem bindC_ktup {ob : List Prop} {u : Upd} {c : Bool}  : bindC P G H K0 hot ops d rest i st t m nx ob u (condV c (.tup l)) = rootC P G H K0 hot ops rest i st nx ob (putSlot d (.cond c (.tup l)) t) (u.app (nx + i) m) (rootOK hot nx i t u) := (rfl)
theorem bindC_kro {ob : List Prop} {u : Upd} {c : Bool} {f : Nat → List AV} : bindC P G H K0 hot ops d rest i st t m nx ob u (condV c (.ro n sz f)) = rootC P G H K0 hot ops rest i st nx ob (putSlot d (.cond c (.ro n sz f)) t) (u.app (nx + i) m) (rootOK hot nx i t u) := (rfl)
theorem bindC_krop {ob : List Prop} {u : Upd} {c : Bool}  : bindC P G H K0 hot ops d rest i st t m nx ob u (condV c (.rop l)) = rootC P G H K0 hot ops rest i st nx ob (putSlot d (.cond c (.rop l)) t) (u.app (nx + i) m) (rootOK hot nx i t u) := (rfl)
theorem bindC_kbx {ob : List Prop} {u : Upd} {c : Bool} {r k : Nat} : bindC P G H K0 hot ops d rest i st t m nx ob u (condV c (.bx r k)) = rootC P G H K0 hot ops rest i st nx ob (putSlot d (.cond c (.bx r k)) t) (u.app (nx + i) m) (rootOK hot nx i t u) := (rfl)
theorem bindC_kptr {ob : List Prop} {u : Upd} {c : Bool} {r f j z k : Nat} : bindC P G H K0 hot ops d rest i st t m nx ob u (condV c (.ptr r f j z k)) = rootC P G H K0 hot ops rest i st nx ob (putSlot d (.cond c (.ptr r f j z k)) t) (u.app (nx + i) m) (rootOK hot nx i t u) := (rfl)
theorem bindC_kown {ob : List Prop} {u : Upd} {c : Bool} {r f : Nat} : bindC P G H K0 hot ops d rest i st t m nx ob u (condV c (.own r f n sz)) = rootC P G H K0 hot ops rest i st nx ob (putSlot d (.cond c (.own r f n sz)) t) (u.app (nx + i) m) (rootOK hot nx i t u) := (rfl)
theorem bindC_kvw {ob : List Prop} {u : Upd} {c : Bool} {r f lo : Nat} : bindC P G H K0 hot ops d rest i st t m nx ob u (condV c (.vw r f lo n sz)) = rootC P G H K0 hot ops rest i st nx ob (putSlot d (.cond c (.vw r f lo n sz)) t) (u.app (nx + i) m) (rootOK hot nx i t u) := (rfl)
theorem bindC_kfn {ob : List Prop} {u : Upd} {c : Bool} {f : FuncId} : bindC P G H K0 hot ops d rest i st t m nx ob u (condV c (.fn f l)) = rootC P G H K0 hot ops rest i st nx ob (putSlot d (.cond c (.fn f l)) t) (u.app (nx + i) m) (rootOK hot nx i t u) := (rfl)
theorem bindC_kiface {ob : List Prop} {u : Upd} {c : Bool} {q : TypeId} : bindC P G H K0 hot ops d rest i st t m nx ob u (condV c (.iface q a)) = rootC P G H K0 hot ops rest i st nx ob (putSlot d (.cond c (.iface q a)) t) (u.app (nx + i) m) (rootOK hot nx i t u) := (rfl)

theorem rootC_conj {ob : List Prop} : rootC P G H K0 hot ops rest i st nx ob t m true = conj ob (regC P G H K0 hot ops rest (i + 1) st t m nx) := (rfl)

/-! ### Rows -/
theorem look_nil {r : Nat} : look [] r = none := (rfl)
theorem look_cons {r : Nat} {x : Fam} : look ((k, x) :: m) r = if k = r then some x else look m r := (rfl)
theorem setRow_nil {r : Nat} {x : Fam} : setRow r x [] = [] := (rfl)
theorem setRow_cons {r : Nat} {x y : Fam} : setRow r x ((k, y) :: m) = if k = r then (k, x) :: m else (k, y) :: setRow r x m := (rfl)
theorem insRow_nil {x : Fam} : insRow k x [] = [(k, x)] := (rfl)
theorem insRow_cons {x y : Fam} : insRow k x ((j, y) :: m) = if j < k then (k, x) :: (j, y) :: m else (j, y) :: insRow k x m := (rfl)
theorem dropRow_nil {r : Nat} : dropRow r [] = [] := (rfl)
theorem dropRow_cons {r : Nat} {y : Fam} : dropRow r ((k, y) :: m) = if k = r then dropRow r m else (k, y) :: dropRow r m := (rfl)
theorem app_none : Upd.app key m .none = m := (rfl)
theorem app_new {x : Fam} : Upd.app key m (.new x) = insRow key x m := (rfl)
theorem app_set {r : Nat} {x : Fam} : Upd.app key m (.set r x) = setRow r x m := (rfl)
theorem app_swap {r : Nat} {x : Fam} : Upd.app key m (.swap r x) = insRow key x (setRow r dead m) := (rfl)
theorem app_manyN {l : List (Nat × Fam)} : Upd.app key m (.many l none) = setRows l m := (rfl)
theorem app_manyS {l : List (Nat × Fam)} {x : Fam} : Upd.app key m (.many l (some x)) = insRow key x (setRows l m) := (rfl)
theorem setRows_nil : setRows [] m = m := (rfl)
theorem setRows_cons {l : List (Nat × Fam)} {r : Nat} {x : Fam} : setRows ((r, x) :: l) m = setRows l (setRow r x m) := (rfl)
theorem mild_none : Upd.mild .none = true := (rfl)
theorem mild_set {r : Nat} {x : Fam} : Upd.mild (.set r x) = false := (rfl)
theorem mild_swap {r : Nat} {x : Fam} : Upd.mild (.swap r x) = false := (rfl)
theorem mild_many {l : List (Nat × Fam)} {x : Option Fam} : Upd.mild (.many l x) = false := (rfl)
theorem mild_new {x : Fam} : Upd.mild (.new x) = true := (rfl)

/-- A row of one element. -/
def fam1 (ty : TypeId) (sz : Nat) (cs : List AV) (g : Option Bool) : Fam := fun f => if f = 0 then ⟨1, sz, ty, fun _ => cs, g⟩ else ⟨0, sz, ty, fun _ => [], g⟩
theorem aAlloc_eq : aAlloc key ty cs g = ⟨[], .bx key 0, .new (fam1 ty cs.length cs g)⟩ := (rfl)
def allocZ (key : Nat) (t : TypeId) (g : Option Bool) (z : Option Value) : Option Eff := match z with
  | some z => some (aAlloc key t (z.cells.toList.map .v) g)
  | none => none
theorem allocZ_agg {z : Array Value} : allocZ key ty g (some (.agg z)) = some ⟨[], .bx key 0, .new (fam1 ty (z.toList.map AV.v).length (z.toList.map .v) g)⟩ := (rfl)
theorem allocZ_int {q : IntKind} {x : Int} : allocZ key ty g (some (.int q x)) = some ⟨[], .bx key 0, .new (fam1 ty 1 [.v (.int q x)] g)⟩ := (rfl)
theorem allocZ_bool {x : Bool} : allocZ key ty g (some (.bool x)) = some ⟨[], .bx key 0, .new (fam1 ty 1 [.v (.bool x)] g)⟩ := (rfl)
theorem allocZ_string {x : ByteArray} : allocZ key ty g (some (.string x)) = some ⟨[], .bx key 0, .new (fam1 ty 1 [.v (.string x)] g)⟩ := (rfl)
theorem allocZ_slice {x : Option Addr} : allocZ key ty g (some (.slice x n k)) = some ⟨[], .bx key 0, .new (fam1 ty 1 [.v (.slice x n k)] g)⟩ := (rfl)
theorem allocZ_pointer {x : Option Addr} : allocZ key ty g (some (.pointer x)) = some ⟨[], .bx key 0, .new (fam1 ty 1 [.v (.pointer x)] g)⟩ := (rfl)
theorem allocZ_nilIface : allocZ key ty g (some .nilIface) = some ⟨[], .bx key 0, .new (fam1 ty 1 [.v .nilIface] g)⟩ := (rfl)
theorem allocZ_nilFunc : allocZ key ty g (some .nilFunc) = some ⟨[], .bx key 0, .new (fam1 ty 1 [.v .nilFunc] g)⟩ := (rfl)
theorem aStep_allocV {q : TypeId} : aStep P G key g ⟨d, .alloc q, ty, pos, af, gd⟩ ρ0 m = allocZ key q g (zeroT P q) := by
  kernel_rfl
def boxZ (key : Nat) (t : TypeId) (g : Option Bool) (z : Option (List AV)) : Option Eff := match z with
  | some cs => if t < 1000000 then some (aAlloc key t cs g) else none
  | none => none
theorem boxZ_some : boxZ key ty g (some cs) = if ty < 1000000 then some ⟨[], .bx key 0, .new (fam1 ty cs.length cs g)⟩ else none := (rfl)
theorem aStep_boxV {q : TypeId} {x : Operand} : aStep P G key g ⟨d, .box q x, ty, pos, af, gd⟩ ρ0 m = boxZ key q g (cellsOf (strip (ρ0 x))) := by
  kernel_rfl

def effL (ob : List Prop) (x : Option AV) : Option Eff := match x with
  | some a => some ⟨ob, a, .none⟩
  | none => none
theorem effL_some {ob : List Prop} : effL ob (some a) = some ⟨ob, a, .none⟩ := (rfl)
/-- To read a row. -/
def loadF (P : Program) (t : TypeId) (k : Nat) (x : Option Fam) : Option Eff := match x with
  | some fam => match (fam 0).n with
    | 1 => match ofCells P t (((fam 0).get 0).drop k) with
      | some a => some ⟨gOb (fam 0).g [], a, .none⟩
      | none => none
    | _ => none
  | none => none
theorem loadF_1 {q : TypeId} : loadF P q k (some (fam1 ty sz cs g)) = effL (gOb g []) (ofC (layT P q) (cs.drop k)) := by
  rw [← ofCells_eq]
  show (match ofCells P q (cs.drop k) with
      | some a => some (⟨gOb g [], a, .none⟩ : Eff)
      | none => none) = _
  cases ofCells P q (cs.drop k) <;> rfl
def loadA (P : Program) (t : TypeId) (p : AV) (m : Mem) : Option Eff := effOf2 (aLoad P t p m)
theorem aStep_loadV {q : TypeId} {p : Operand} : aStep P G key g ⟨d, .load q p, ty, pos, af, gd⟩ ρ0 m = loadA P q (strip (ρ0 p)) m := (rfl)
theorem loadA_bx {q : TypeId} {r : Nat} : loadA P q (.bx r k) m = loadF P q k (look m r) := by
  unfold loadA loadF
  rw [aLoad_bx]
  unfold optB ifB
  cases look m r with
  | none => rfl
  | some fam =>
    generalize hq : (fam 0).n = c
    rcases c with _ | _ | c
    · simp [effOf2, hq]
    · simp only [hq]
      cases ofCells P q (((fam 0).get 0).drop k) <;> simp [effOf2]
    · simp [effOf2, hq]
theorem loadA_rop {q : TypeId} : loadA P q (.rop cs) m = effL [] (ofC (layT P q) cs) := by
  rw [← ofCells_eq]
  show effOf2 (match ofCells P q cs with
    | some a => some ([], a)
    | none => none) = _
  cases ofCells P q cs <;> rfl
def loadP (P : Program) (t : TypeId) (f i sz k : Nat) (x : Option Fam) : Option Eff := match x with
  | some fam => match ofCells P t (((fam f).get i).drop k) with
    | some a => some ⟨(i < (fam f).n) :: (sz = (fam f).sz) :: gOb (fam f).g [], a, .none⟩
    | none => none
  | none => none
theorem loadA_ptr {q : TypeId} {r f : Nat} : loadA P q (.ptr r f i sz k) m = loadP P q f i sz k (look m r) := by
  unfold loadA loadP aLoad
  dsimp only
  cases look m r with
  | none => rfl
  | some fam =>
    dsimp only
    cases ofCells P _ (((fam f).get i).drop k) <;> rfl
theorem loadP_N {q : TypeId} {get : Nat → List AV} {sz' : Nat} : loadP P q 0 i sz k (some (famN n sz' ty get g)) = effL ((i < n) :: (sz = sz') :: gOb g []) (ofC (layT P q) ((get i).drop k)) := by
  rw [← ofCells_eq]
  show (match ofCells P q ((get i).drop k) with
      | some a => some (⟨(i < n) :: (sz = sz') :: gOb g [], a, .none⟩ : Eff)
      | none => none) = _
  cases ofCells P q ((get i).drop k) <;> rfl
theorem gOb_none {l : List Prop} : gOb none l = l := (rfl)
theorem gOb_some {c : Bool} {l : List Prop} : gOb (some c) l = (c = true) :: l := (rfl)

/-- To write a row. -/
def storeF (k : Nat) (r : Nat) (cs : List AV) (x : Option Fam) : Option Eff := match x with
  | some fam => match (fam 0).n with
    | 1 => if k + cs.length ≤ (fam 0).sz then some ⟨gOb (fam 0).g [], .v undef, .set r (set1 fam k cs)⟩ else none
    | _ => none
  | none => none
def storeP (r f i sz k : Nat) (cs : List AV) (x : Option Fam) : Option Eff := match x with
  | some fam => if k + cs.length ≤ sz then some ⟨(i < (fam f).n) :: (sz = (fam f).sz) :: gOb (fam f).g [], .v undef, .set r (updAt fam f i k cs)⟩ else none
  | none => none
def storeC (p : AV) (m : Mem) (cs : List AV) (ok : Prop) [Decidable ok] : Option Eff := if ok then (match p with
  | .bx r k => storeF k r cs (look m r)
  | .ptr r f i sz k => storeP r f i sz k cs (look m r)
  | _ => none) else none
def storeX (P : Program) (t : TypeId) (p : AV) (m : Mem) (x : Option (List AV)) : Option Eff := match x with
  | some cs => storeC p m cs ((layT P t).map (·.2) = some cs.length)
  | none => none
theorem aStep_storeV {q : TypeId} {p x : Operand} : aStep P G key g ⟨d, .store q p x, ty, pos, af, gd⟩ ρ0 m = storeX P q (strip (ρ0 p)) m (cellsOf (strip (ρ0 x))) := by
  rw [aStep_store]
  unfold aStore storeX storeC
  generalize strip (ρ0 p) = a
  cases cellsOf (strip (ρ0 x)) with
  | none => rfl
  | some cs =>
    dsimp only
    split
    · cases a with
      | bx r k =>
        dsimp only
        unfold storeF
        cases look m r with
        | none => rfl
        | some fam =>
          dsimp only
          generalize (fam 0).n = q
          rcases q with _ | _ | q <;> rfl
      | _ => rfl
    · rfl
theorem storeX_some {q : TypeId} : storeX P q a m (some cs) = storeC a m cs ((layT P q).map (·.2) = some cs.length) := (rfl)
def laySz : Option (Bool × Nat) → Option Nat
  | some (_, n) => some n
  | none => none
theorem storeX_lay {q : TypeId} : storeX P q a m (some cs) = storeC a m cs (laySz (layT P q) = some cs.length) := by
  rw [storeX_some]
  have : (layT P q).map (·.2) = laySz (layT P q) := by cases layT P q <;> rfl
  simp only [this]
theorem laySz_some {c : Bool} : laySz (some (c, n)) = some n := (rfl)
theorem storeC_bx {r : Nat} {p : Prop} [Decidable p] (h : p) : storeC (.bx r k) m cs p = storeF k r cs (look m r) := if_pos h
theorem storeC_ptr {r f : Nat} {p : Prop} [Decidable p] (h : p) : storeC (.ptr r f i sz k) m cs p = storeP r f i sz k cs (look m r) := if_pos h
theorem storeF_1 {r : Nat} : storeF k r l (some (fam1 ty sz cs g)) = if k + l.length ≤ sz then some ⟨gOb g [], .v undef, .set r (fam1 ty sz (putCells cs k l) g)⟩ else none := by
  have e : set1 (fam1 ty sz cs g) k l = fam1 ty sz (putCells cs k l) g := by
    funext f
    unfold set1 fam1
    by_cases h : f = 0
    · subst h; rfl
    · rw [if_neg h, if_neg h, if_neg h]
  rw [← e]; rfl
theorem storeP_N {r : Nat} {get : Nat → List AV} {sz' : Nat} : storeP r 0 i sz k l (some (famN n sz' ty get g)) = if k + l.length ≤ sz then some ⟨(i < n) :: (sz = sz') :: gOb g [], .v undef, .set r (famN n sz' ty (fun j => if j = i then putCells (get i) k l else get j) g)⟩ else none := by
  have e : updAt (famN n sz' ty get g) 0 i k l = famN n sz' ty (fun j => if j = i then putCells (get i) k l else get j) g := by
    funext f
    unfold updAt famN
    by_cases h : f = 0
    · subst h; rfl
    · rw [if_neg h, if_neg h, if_neg h]
  rw [← e]; rfl
theorem putCells_eq : putCells cs k l = cs.take k ++ l ++ cs.drop (k + l.length) := (rfl)

/-! ### Aggregates -/
def fillP (pl : List (Nat × Nat)) (cells : List AV) (l : List (Nat × AV)) : Option (List AV) := fillA (fun i => pl[i]?) cells l
def fillQ (pl : List (Nat × Nat)) (cells : List AV) (l : List (Nat × AV)) (x : Option (Nat × Nat)) (y : Option (List AV)) : Option (List AV) := match x with
  | some (off, size) => match y with
    | some cs => if cs.length = size ∧ off + cs.length ≤ cells.length then fillP pl (putCells cells off cs) l else none
    | none => none
  | none => none
theorem fillP_nil {pl : List (Nat × Nat)} : fillP pl cs [] = some cs := (rfl)
theorem fillP_cons {pl : List (Nat × Nat)} {q : List (Nat × AV)} : fillP pl cs ((i, a) :: q) = fillQ pl cs q pl[i]? (cellsOf a) := by
  unfold fillP fillQ
  rw [fillA]
  cases pl[i]? with
  | none => rfl
  | some p => cases cellsOf a <;> rfl
theorem fillQ_some {pl : List (Nat × Nat)} {q : List (Nat × AV)} {off size : Nat} : fillQ pl cs q (some (off, size)) (some l) = if l.length = size ∧ off + l.length ≤ cs.length then fillP pl (putCells cs off l) q else none := (rfl)
def buildZ (pl : Option (List (Nat × Nat))) (z : Option Value) (l : List (Nat × AV)) : Option (List AV) := match z with
  | some z => match pl with
    | some pl => fillP pl (z.cells.toList.map .v) l
    | none => none
  | none => none
theorem buildZ_agg {pl : List (Nat × Nat)} {z : Array Value} {q : List (Nat × AV)} : buildZ (some pl) (some (.agg z)) q = fillP pl (z.toList.map .v) q := (rfl)
def aggE : Option (List AV) → Option Eff
  | some cs => some ⟨[], .agg cs, .none⟩
  | none => none
theorem aggE_some : aggE (some cs) = some ⟨[], .agg cs, .none⟩ := (rfl)
/-- The operands of a literal's parts. -/
def partsV (t : Slots) : List (Nat × Operand) → List (Nat × AV)
  | [] => []
  | (i, x) :: r => (i, strip (opd t x)) :: partsV t r
theorem partsV_eq : ∀ (l : List (Nat × Operand)), l.map (fun q => (q.1, strip (opd t q.2))) = partsV t l
  | [] => rfl
  | (i, x) :: r => by rw [List.map_cons, partsV_eq r]; rfl
theorem aStep_buildV {q : TypeId} {parts : Array (Nat × Operand)} : aStep P G key g ⟨d, .build q parts, ty, pos, af, gd⟩ (opd t) m = aggE (buildZ (bPlaces P q) (zeroT P q) (partsV t parts.toList)) := by
  rw [aStep_build, ← partsV_eq]
  unfold optB aggE buildZ fillP
  cases zeroT P q with
  | none => rfl
  | some z =>
    dsimp only
    cases bPlaces P q with
    | none => rfl
    | some pl =>
      dsimp only
      cases fillA (fun i => pl[i]?) (z.cells.toList.map .v) (parts.toList.map fun q => (q.1, strip (opd t q.2))) <;> rfl
def fillS (sz : Nat) (cells : List AV) (l : List (Nat × AV)) : Option (List AV) := fillA (fun i => some (i * sz, sz)) cells l
def fillT (sz i : Nat) (cells : List AV) (l : List (Nat × AV)) (y : Option (List AV)) : Option (List AV) := match y with
  | some cs => if cs.length = sz ∧ i * sz + cs.length ≤ cells.length then fillS sz (putCells cells (i * sz) cs) l else none
  | none => none
theorem fillS_nil : fillS sz cs [] = some cs := (rfl)
theorem fillS_cons {q : List (Nat × AV)} : fillS sz cs ((i, a) :: q) = fillT sz i cs q (cellsOf a) := by
  unfold fillS fillT
  rw [fillA]
  cases cellsOf a <;> rfl
theorem fillT_some {q : List (Nat × AV)} : fillT sz i cs q (some l) = if l.length = sz ∧ i * sz + l.length ≤ cs.length then fillS sz (putCells cs (i * sz) l) q else none := (rfl)
def sliceR (P : Program) (key len : Nat) (e : TypeId) (g : Option Bool) (cs : List AV) (c : Bool) : Option Eff := match c with
  | true => some ⟨[], .ro len (sizeT P e) (rowsOf (sizeT P e) cs), .none⟩
  | false => some ⟨[], .own key 0 len (sizeT P e), .new (famN len (sizeT P e) e (rowsOf (sizeT P e) cs) g)⟩
theorem sliceR_true {e : TypeId} : sliceR P key len e g cs true = some ⟨[], .ro len (sizeT P e) (rowsOf (sizeT P e) cs), .none⟩ := (rfl)
theorem sliceR_false {e : TypeId} : sliceR P key len e g cs false = some ⟨[], .own key 0 len (sizeT P e), .new (famN len (sizeT P e) e (rowsOf (sizeT P e) cs) g)⟩ := (rfl)
def sliceE (P : Program) (key len : Nat) (e : TypeId) (g : Option Bool) (x : Option (List AV)) : Option Eff := match x with
  | some cs => if 13 ≤ sizeT P e then sliceR P key len e g cs (cs.all (clean 2)) else some ⟨[], .own key 0 len (sizeT P e), .new (famN len (sizeT P e) e (rowsOf (sizeT P e) cs) g)⟩
  | none => none
theorem sliceE_some {e : TypeId} : sliceE P key len e g (some cs) = if 13 ≤ sizeT P e then sliceR P key len e g cs (cs.all (clean 2)) else some ⟨[], .own key 0 len (sizeT P e), .new (famN len (sizeT P e) e (rowsOf (sizeT P e) cs) g)⟩ := (rfl)
theorem sliceR_if {e : TypeId} : (if 13 ≤ sizeT P e ∧ cs.all (clean 2) = true then some (⟨[], .ro len (sizeT P e) (rowsOf (sizeT P e) cs), .none⟩ : Eff) else some ⟨[], .own key 0 len (sizeT P e), .new (fun f => if f = 0 then ⟨len, sizeT P e, e, rowsOf (sizeT P e) cs, g⟩ else ⟨0, sizeT P e, e, fun _ => [], g⟩)⟩) =
    if 13 ≤ sizeT P e then sliceR P key len e g cs (cs.all (clean 2)) else some ⟨[], .own key 0 len (sizeT P e), .new (famN len (sizeT P e) e (rowsOf (sizeT P e) cs) g)⟩ := by
  by_cases h : 13 ≤ sizeT P e
  · rw [if_pos h]
    cases hc : cs.all (clean 2)
    · rw [if_neg (fun q => by cases q.2)]; rfl
    · rw [if_pos ⟨h, rfl⟩]; rfl
  · rw [if_neg h, if_neg (fun q => h q.1)]; rfl
def sliceZ (P : Program) (key len : Nat) (e : TypeId) (g : Option Bool) (l : List (Nat × AV)) (z : Option Value) : Option Eff := match z with
  | some z => if len * sizeT P e ≤ 16777216 ∧ z.cells.size = sizeT P e then sliceE P key len e g (fillS (sizeT P e) (zeros z len) l) else none
  | none => none
theorem sliceZ_some {e : TypeId} {q : List (Nat × AV)} {z : Value} : sliceZ P key len e g q (some z) = if len * sizeT P e ≤ 16777216 ∧ z.cells.size = sizeT P e then sliceE P key len e g (fillS (sizeT P e) (zeros z len) q) else none := (rfl)
def sliceB (P : Program) (key len : Nat) (g : Option Bool) (l : List (Nat × AV)) (e : Option TypeId) : Option Eff := match e with
  | some e => sliceZ P key len e g l (zeroT P e)
  | none => none
theorem sliceB_some {e : TypeId} {q : List (Nat × AV)} : sliceB P key len g q (some e) = sliceZ P key len e g q (zeroT P e) := (rfl)
theorem aStep_buildSliceV {q : TypeId} {parts : Array (Nat × Operand)} : aStep P G key g ⟨d, .buildSlice q n parts, ty, pos, af, gd⟩ (opd t) m = sliceB P key n g (partsV t parts.toList) (sElem P q) := by
  rw [aStep_buildSlice, ← partsV_eq]
  unfold optB ifP sliceB sliceZ sliceE fillS
  cases sElem P q with
  | none => rfl
  | some e =>
    dsimp only
    cases zeroT P e with
    | none => rfl
    | some z =>
      dsimp only
      split
      · cases fillA (fun i => some (i * sizeT P e, sizeT P e)) (zeros z n) (parts.toList.map fun q => (q.1, strip (opd t q.2))) with
        | none => rfl
        | some cs => exact sliceR_if
      · rfl
theorem rowsOf_eq : rowsOf sz cs i = (cs.drop (i * sz)).take sz := (rfl)

/-! ### Addresses -/
def offE (off : Option Nat) (p : AV) : Option Eff := match off with
  | some off => effOf (addrOff off p)
  | none => none
theorem offE_bx {r o : Nat} : offE (some o) (.bx r k) = some ⟨[], .bx r (k + o), .none⟩ := (rfl)
theorem offE_ptr {r f o : Nat} : offE (some o) (.ptr r f i sz k) = some ⟨[], .ptr r f i sz (k + o), .none⟩ := (rfl)
theorem offE_rop {o : Nat} : offE (some o) (.rop cs) = some ⟨[], .rop (cs.drop o), .none⟩ := (rfl)
theorem aStep_fieldAddrV {q : TypeId} {x : Operand} {f : Nat} : aStep P G key g ⟨d, .fieldAddr q x f, ty, pos, af, gd⟩ ρ0 m = offE (fOff P q f) (strip (ρ0 x)) := by
  rw [aStep_fieldAddr]
  unfold optB offE
  cases fOff P q f <;> rfl
def fieldE (P : Program) (off : Option Nat) (t : Option TypeId) (x : AV) : Option Eff := match x with
  | .agg cs => match off with
    | some off => match t with
      | some t => effOf (ofCells P t (cs.drop off))
      | none => none
    | none => none
  | _ => none
theorem fieldE_agg {o : Nat} {q : TypeId} : fieldE P (some o) (some q) (.agg cs) = effL [] (ofC (layT P q) (cs.drop o)) := by
  rw [← ofCells_eq]
  show effOf (ofCells P q (cs.drop o)) = _
  cases ofCells P q (cs.drop o) <;> rfl
theorem aStep_fieldV {q : TypeId} {x : Operand} {f : Nat} : aStep P G key g ⟨d, .field q x f, ty, pos, af, gd⟩ ρ0 m = fieldE P (fOff P q f) (fTy P q f) (strip (ρ0 x)) := by
  rw [aStep_field]
  unfold fieldE aField
  cases strip (ρ0 x) with
  | agg cs =>
    dsimp only
    cases fOff P q f with
    | none => rfl
    | some o =>
      dsimp only
      cases fTy P q f <;> rfl
  | _ => rfl
/-- The place of an element. -/
def idxS (P : Program) (ob : List Prop) (sz : Nat) (a : AV) (e : Option TypeId) : Option Eff := match e with
  | some e => if (P.info? e).isSome = true ∧ sizeT P e = sz then some ⟨ob, a, .none⟩ else none
  | none => none
theorem idxS_some {ob : List Prop} {e : TypeId} : idxS P ob sz a (some e) = if (P.info? e).isSome = true ∧ sizeT P e = sz then some ⟨ob, a, .none⟩ else none := (rfl)
def idxA (P : Program) (x : AV) (n : Int) (e : Option (Nat × TypeId)) : Option Eff := match e with
  | some (len, e) => if (P.info? e).isSome = true then (match x with
    | .bx r k => some ⟨[0 ≤ n, n < (len : Int)], .bx r (k + n.toNat * sizeT P e), .none⟩
    | .ptr r f j sz k => some ⟨[0 ≤ n, n < (len : Int)], .ptr r f j sz (k + n.toNat * sizeT P e), .none⟩
    | .rop cs => some ⟨[0 ≤ n, n < (len : Int)], .rop (cs.drop (n.toNat * sizeT P e)), .none⟩
    | _ => none) else none
  | none => none
theorem idxA_bx {r : Nat} {z : Int} {e : TypeId} (h : (P.info? e).isSome = true) : idxA P (.bx r k) z (some (len, e)) = some ⟨[0 ≤ z, z < (len : Int)], .bx r (k + z.toNat * sizeT P e), .none⟩ := if_pos h
theorem idxA_ptr {r f : Nat} {z : Int} {e : TypeId} (h : (P.info? e).isSome = true) : idxA P (.ptr r f i sz k) z (some (len, e)) = some ⟨[0 ≤ z, z < (len : Int)], .ptr r f i sz (k + z.toNat * sizeT P e), .none⟩ := if_pos h
theorem idxA_rop {z : Int} {e : TypeId} (h : (P.info? e).isSome = true) : idxA P (.rop cs) z (some (len, e)) = some ⟨[0 ≤ z, z < (len : Int)], .rop (cs.drop (z.toNat * sizeT P e)), .none⟩ := if_pos h
def idxE (P : Program) (t : TypeId) (x i : AV) : Option Eff := effOf2 (aIndexAddr P t x i)
theorem aStep_indexAddrV {q : TypeId} {x y : Operand} : aStep P G key g ⟨d, .indexAddr q x y, ty, pos, af, gd⟩ ρ0 m = idxE P q (strip (ρ0 x)) (strip (ρ0 y)) := (rfl)
theorem idxE_ro {q : TypeId} {f : Nat → List AV} {c : IntKind} {z : Int} : idxE P q (.ro len sz f) (.v (.int c z)) = idxS P [0 ≤ z, z < (len : Int)] sz (.rop (f z.toNat)) (sElem P q) := by
  unfold idxE idxS
  rw [aIndexAddr_ro]
  unfold optB ifP
  cases sElem P q with
  | none => rfl
  | some e => dsimp only; split <;> rfl
theorem idxE_own {q : TypeId} {r f : Nat} {c : IntKind} {z : Int} : idxE P q (.own r f len sz) (.v (.int c z)) = idxS P [0 ≤ z, z < (len : Int)] sz (.ptr r f z.toNat sz 0) (sElem P q) := by
  unfold idxE idxS
  rw [aIndexAddr_own]
  unfold optB ifP
  cases sElem P q with
  | none => rfl
  | some e => dsimp only; split <;> rfl
theorem idxE_vw {q : TypeId} {r f lo : Nat} {c : IntKind} {z : Int} : idxE P q (.vw r f lo len sz) (.v (.int c z)) = idxS P [0 ≤ z, z < (len : Int)] sz (.ptr r f (lo + z.toNat) sz 0) (sElem P q) := by
  unfold idxE idxS
  rw [aIndexAddr_vw]
  unfold optB ifP
  cases sElem P q with
  | none => rfl
  | some e => dsimp only; split <;> rfl
theorem idxE_bx {q : TypeId} {r : Nat} {c : IntKind} {z : Int} : idxE P q (.bx r k) (.v (.int c z)) = idxA P (.bx r k) z (aElem P q) := by
  unfold idxE idxA
  rw [aIndexAddr_bx]
  unfold optB ifP
  cases aElem P q with
  | none => rfl
  | some e => dsimp only; split <;> rfl
theorem idxE_rop {q : TypeId} {c : IntKind} {z : Int} : idxE P q (.rop cs) (.v (.int c z)) = idxA P (.rop cs) z (aElem P q) := by
  unfold idxE idxA
  rw [aIndexAddr_rop]
  unfold optB ifP
  cases aElem P q with
  | none => rfl
  | some e => dsimp only; split <;> rfl
theorem idxE_ptr {q : TypeId} {r f : Nat} {c : IntKind} {z : Int} : idxE P q (.ptr r f i sz k) (.v (.int c z)) = idxA P (.ptr r f i sz k) z (aElem P q) := by
  unfold idxE idxA aIndexAddr
  dsimp only [intOfA]
  cases aElem P q with
  | none => rfl
  | some e => obtain ⟨len, e⟩ := e; dsimp only; split <;> rfl

/-! ### Functions, interfaces, tuples -/
/-- The operands of a call. -/
def argsV (t : Slots) : List Operand → List AV
  | [] => []
  | x :: r => strip (opd t x) :: argsV t r
theorem argsV_eq : ∀ (l : List Operand), l.map (fun x => strip (opd t x)) = argsV t l
  | [] => rfl
  | x :: r => by rw [List.map_cons, argsV_eq r]; rfl
theorem argsV_nil : argsV t [] = [] := (rfl)
theorem argsV_cons {x : Operand} {r : List Operand} : argsV t (x :: r) = strip (opd t x) :: argsV t r := (rfl)
theorem partsV_nil : partsV t [] = [] := (rfl)
theorem partsV_cons {x : Operand} {r : List (Nat × Operand)} : partsV t ((i, x) :: r) = (i, strip (opd t x)) :: partsV t r := (rfl)
theorem aStep_makeFuncV {f : FuncId} {cap : Array Operand} : aStep P G key g ⟨d, .makeFunc (.func f) #[] cap, ty, pos, af, gd⟩ (opd t) m = some ⟨[], .fn f (argsV t cap.toList), .none⟩ := by
  rw [aStep_makeFunc, argsV_eq]
def ifaceE (q : TypeId) (a : AV) (c : Bool) : Option Eff := match c with
  | true => some ⟨[], .iface q a, .none⟩
  | false => none
theorem ifaceE_true {q : TypeId} : ifaceE q a true = some ⟨[], .iface q a, .none⟩ := (rfl)
theorem aStep_makeInterfaceV {q : TypeId} {x : Operand} : aStep P G key g ⟨d, .makeInterface q x, ty, pos, af, gd⟩ ρ0 m = ifaceE q (strip (ρ0 x)) (concreteT P q) := by
  rw [aStep_makeInterface]
  unfold ifB ifaceE
  cases concreteT P q <;> rfl
def extractE (P : Program) (o : Oper) (i : Nat) (x : AV) (ρ : Operand → AV) : Option Eff := match x with
  | .tup cs => effOf cs[i]?
  | _ => effOf (aPure P ρ o)
theorem aStep_extractV {x : Operand} : aStep P G key g ⟨d, .extract x i, ty, pos, af, gd⟩ ρ0 m = extractE P ⟨d, .extract x i, ty, pos, af, gd⟩ i (strip (ρ0 x)) (fun x => strip (ρ0 x)) := by
  rw [aStep_extract]
  unfold tupK extractE
  cases strip (ρ0 x) <;> rfl
theorem effOf_some : effOf (some a) = some ⟨[], a, .none⟩ := (rfl)
theorem effOf2_some {ob : List Prop} : effOf2 (some (ob, a)) = some ⟨ob, a, .none⟩ := (rfl)
theorem extractE_tup {o : Oper} {ρ : Operand → AV} : extractE P o i (.tup cs) ρ = effOf cs[i]? := (rfl)
def nilE (P : Program) (o : Oper) (x : AV) (ρ : Operand → AV) : Option Eff := match nonNil x with
  | true => some ⟨[], x, .none⟩
  | false => effOf (aPure P ρ o)
theorem aStep_nilCheckV {x : Operand} : aStep P G key g ⟨d, .nilCheck x, ty, pos, af, gd⟩ ρ0 m = nilE P ⟨d, .nilCheck x, ty, pos, af, gd⟩ (strip (ρ0 x)) (fun x => strip (ρ0 x)) := by
  rw [aStep_nilCheck]
  unfold ifB nilE
  cases nonNil (strip (ρ0 x)) <;> rfl
theorem nilE_bx {o : Oper} {ρ : Operand → AV} : nilE P o (.bx n k) ρ = some ⟨[], .bx n k, .none⟩ := (rfl)
theorem nilE_ptr {o : Oper} {ρ : Operand → AV} {r f : Nat} : nilE P o (.ptr r f i sz k) ρ = some ⟨[], .ptr r f i sz k, .none⟩ := (rfl)
theorem nilE_rop {o : Oper} {ρ : Operand → AV} : nilE P o (.rop cs) ρ = some ⟨[], .rop cs, .none⟩ := (rfl)
theorem nilE_iface {o : Oper} {ρ : Operand → AV} {q : TypeId} : nilE P o (.iface q a) ρ = some ⟨[], .iface q a, .none⟩ := (rfl)
def zeroE (x : Option Value) : Option Eff := match x with
  | some z => some ⟨[], .tup [ofVal1 z, .v (.bool false)], .none⟩
  | none => none
theorem zeroE_agg {x : Array Value} : zeroE (some (.agg x)) = some ⟨[], .tup [.agg (x.toList.map .v), .v (.bool false)], .none⟩ := (rfl)
theorem zeroE_int {q : IntKind} {x : Int} : zeroE (some (.int q x)) = some ⟨[], .tup [.v (.int q x), .v (.bool false)], .none⟩ := (rfl)
theorem zeroE_nilIface : zeroE (some .nilIface) = some ⟨[], .tup [.v .nilIface, .v (.bool false)], .none⟩ := (rfl)
theorem zeroE_pointer {x : Option Addr} : zeroE (some (.pointer x)) = some ⟨[], .tup [.v (.pointer x), .v (.bool false)], .none⟩ := (rfl)
def assertOkE (P : Program) (o : Oper) (q : TypeId) (c : Bool) (x : AV) (ρ : Operand → AV) : Option Eff := match x with
  | .iface u y => match c with
    | true => if u = q then some ⟨[], .tup [y, .v (.bool true)], .none⟩ else zeroE (zeroT P q)
    | false => none
  | _ => effOf (aPure P ρ o)
theorem aStep_assertOkV {x : Operand} {it q : TypeId} : aStep P G key g ⟨d, .typeAssert x it q true, ty, pos, af, gd⟩ ρ0 m = assertOkE P ⟨d, .typeAssert x it q true, ty, pos, af, gd⟩ q (concreteT P q) (strip (ρ0 x)) (fun x => strip (ρ0 x)) := by
  rw [aStep_assertOk]
  unfold ifcK ifB ifP optB assertOkE zeroE
  cases strip (ρ0 x) with
  | iface u y =>
    dsimp only
    cases concreteT P q with
    | false => rfl
    | true =>
      dsimp only
      by_cases h : u = q
      · rw [if_pos h, if_pos h]
      · rw [if_neg h, if_neg h]
        cases zeroT P q <;> rfl
  | _ => rfl
theorem assertOkE_iface {o : Oper} {ρ : Operand → AV} {u q : TypeId} : assertOkE P o q true (.iface u a) ρ = if u = q then some ⟨[], .tup [a, .v (.bool true)], .none⟩ else zeroE (zeroT P q) := (rfl)
def assertE (P : Program) (o : Oper) (q : TypeId) (c : Bool) (x : AV) (ρ : Operand → AV) : Option Eff := match x with
  | .iface u y => match c with
    | true => if u = q then some ⟨[], y, .none⟩ else none
    | false => none
  | _ => effOf (aPure P ρ o)
theorem aStep_assertV {x : Operand} {it q : TypeId} : aStep P G key g ⟨d, .typeAssert x it q false, ty, pos, af, gd⟩ ρ0 m = assertE P ⟨d, .typeAssert x it q false, ty, pos, af, gd⟩ q (concreteT P q) (strip (ρ0 x)) (fun x => strip (ρ0 x)) := by
  rw [aStep_assert]
  unfold ifcK ifB ifP assertE
  cases strip (ρ0 x) with
  | iface u y =>
    dsimp only
    all_goals (cases concreteT P q <;> rfl)
  | _ => rfl
theorem assertE_iface {o : Oper} {ρ : Operand → AV} {u q : TypeId} : assertE P o q true (.iface u a) ρ = if u = q then some ⟨[], a, .none⟩ else none := (rfl)

/-! ### Whole numbers and truth values -/
def binE (P : Program) (op : BinOp) (q : TypeId) (a b : AV) : Option Eff := match flat a with
  | some x => match flat b with
    | some y => match pureRun P (Go.binOp op q x y) with
      | some v => some ⟨[], ofVal v, .none⟩
      | none => none
    | none => none
  | none => none
end
end Go.Ax
end

section
/-
  Equations of first order: whole numbers, truth values, calls, results.
-/
set_option linter.unusedVariables false
set_option linter.unusedSimpArgs false
namespace Go.Ax

section
variable {P : Program} {G : Ctx} {H : Hots} {K0 : AEx → St → Prop} {st : List Fr} {s : St} {hot : Option Hot} {ops : Array Oper} {rest : List Oper} {i j k n sz len key base : Nat} {t : Slots} {m : Mem} {nx : Nat} {d : Option Tmp} {ty : TypeId} {pos : String} {af : Array Edge} {gd : Option (Nat × Bool)} {g : Option Bool} {ρ0 : Operand → AV} {a b : AV} {l : List AV} {cs : List AV} {c c' : IntKind} {x y : Int} {q u : TypeId}

theorem pureRun_under {d : TypeDesc} (h : P.underlying q = some d) : pureRun P (underlying q) = some d := by
  show pureRun P (match P.underlying q with
    | some d => Sem.pure d
    | none => stuck _) = _
  rw [h]; rfl

theorem pureRun_bind {α β : Type} (x : Sem α) (f : α → Sem β) : pureRun P (x.bind f) = match pureRun P x with
    | some a => pureRun P (f a)
    | none => none := by
  induction x with
  | pure a => rfl
  | program k ih => exact ih P
  | _ => rfl

def notEq : BinOp → Bool
  | .eql => false
  | .neq => false
  | _ => true
theorem aStep_binG {op : BinOp} (h : notEq op = true) {x y : Operand} : aStep P G key g ⟨d, .binOp op q x y u, ty, pos, af, gd⟩ ρ0 m = binE P op q (strip (ρ0 x)) (strip (ρ0 y)) := by
  have h0 : aStep P G key g ⟨d, .binOp op q x y u, ty, pos, af, gd⟩ ρ0 m = effOf (aPure P (fun x => strip (ρ0 x)) ⟨d, .binOp op q x y u, ty, pos, af, gd⟩) := by
    cases op <;> first | rfl | simp [notEq] at h
  rw [h0]
  unfold aPure binE
  dsimp only [Op.operands, List.map, flatAll]
  cases hx : flat (strip (ρ0 x)) with
  | none => rfl
  | some vx =>
    cases hy : flat (strip (ρ0 y)) with
    | none => rfl
    | some vy =>
      dsimp only
      have : execOp (fun x => (flat (strip (ρ0 x))).getD undef) ⟨d, .binOp op q x y u, ty, pos, af, gd⟩ = Sem.bind (Go.binOp op q vx vy) fun v => Sem.pure (Next.value v) := by
        show Sem.bind (Sem.bind (eqGuard op q x y ((flat (strip (ρ0 x))).getD undef) ((flat (strip (ρ0 y))).getD undef)) fun _ => Go.binOp op q ((flat (strip (ρ0 x))).getD undef) ((flat (strip (ρ0 y))).getD undef)) (fun v => Sem.pure (Next.value v)) = _
        rw [hx, hy]
        cases op <;> first | rfl | simp [notEq] at h
      rw [this, pureRun_bind]
      cases pureRun P (Go.binOp op q vx vy) <;> rfl
theorem aStep_add2 {x y : Operand} : aStep P G key g ⟨d, .binOp .add q x y u, ty, pos, af, gd⟩ ρ0 m = binE P .add q (strip (ρ0 x)) (strip (ρ0 y)) := aStep_binG rfl
theorem aStep_sub2 {x y : Operand} : aStep P G key g ⟨d, .binOp .sub q x y u, ty, pos, af, gd⟩ ρ0 m = binE P .sub q (strip (ρ0 x)) (strip (ρ0 y)) := aStep_binG rfl
theorem aStep_mul2 {x y : Operand} : aStep P G key g ⟨d, .binOp .mul q x y u, ty, pos, af, gd⟩ ρ0 m = binE P .mul q (strip (ρ0 x)) (strip (ρ0 y)) := aStep_binG rfl
theorem aStep_quo2 {x y : Operand} : aStep P G key g ⟨d, .binOp .quo q x y u, ty, pos, af, gd⟩ ρ0 m = binE P .quo q (strip (ρ0 x)) (strip (ρ0 y)) := aStep_binG rfl
theorem aStep_rem2 {x y : Operand} : aStep P G key g ⟨d, .binOp .rem q x y u, ty, pos, af, gd⟩ ρ0 m = binE P .rem q (strip (ρ0 x)) (strip (ρ0 y)) := aStep_binG rfl
theorem aStep_and2 {x y : Operand} : aStep P G key g ⟨d, .binOp .and q x y u, ty, pos, af, gd⟩ ρ0 m = binE P .and q (strip (ρ0 x)) (strip (ρ0 y)) := aStep_binG rfl
theorem aStep_or2 {x y : Operand} : aStep P G key g ⟨d, .binOp .or q x y u, ty, pos, af, gd⟩ ρ0 m = binE P .or q (strip (ρ0 x)) (strip (ρ0 y)) := aStep_binG rfl
theorem aStep_xor2 {x y : Operand} : aStep P G key g ⟨d, .binOp .xor q x y u, ty, pos, af, gd⟩ ρ0 m = binE P .xor q (strip (ρ0 x)) (strip (ρ0 y)) := aStep_binG rfl
theorem aStep_andNot2 {x y : Operand} : aStep P G key g ⟨d, .binOp .andNot q x y u, ty, pos, af, gd⟩ ρ0 m = binE P .andNot q (strip (ρ0 x)) (strip (ρ0 y)) := aStep_binG rfl
theorem aStep_shl2 {x y : Operand} : aStep P G key g ⟨d, .binOp .shl q x y u, ty, pos, af, gd⟩ ρ0 m = binE P .shl q (strip (ρ0 x)) (strip (ρ0 y)) := aStep_binG rfl
theorem aStep_shr2 {x y : Operand} : aStep P G key g ⟨d, .binOp .shr q x y u, ty, pos, af, gd⟩ ρ0 m = binE P .shr q (strip (ρ0 x)) (strip (ρ0 y)) := aStep_binG rfl
theorem aStep_lss2 {x y : Operand} : aStep P G key g ⟨d, .binOp .lss q x y u, ty, pos, af, gd⟩ ρ0 m = binE P .lss q (strip (ρ0 x)) (strip (ρ0 y)) := aStep_binG rfl
theorem aStep_leq2 {x y : Operand} : aStep P G key g ⟨d, .binOp .leq q x y u, ty, pos, af, gd⟩ ρ0 m = binE P .leq q (strip (ρ0 x)) (strip (ρ0 y)) := aStep_binG rfl
theorem aStep_gtr2 {x y : Operand} : aStep P G key g ⟨d, .binOp .gtr q x y u, ty, pos, af, gd⟩ ρ0 m = binE P .gtr q (strip (ρ0 x)) (strip (ρ0 y)) := aStep_binG rfl
theorem aStep_geq2 {x y : Operand} : aStep P G key g ⟨d, .binOp .geq q x y u, ty, pos, af, gd⟩ ρ0 m = binE P .geq q (strip (ρ0 x)) (strip (ρ0 y)) := aStep_binG rfl

theorem binE_of (op : BinOp) (v : Value) (h : Go.binOp op q (.int c x) (.int c' y) = Sem.pure v) : binE P op q (.v (.int c x)) (.v (.int c' y)) = some ⟨[], ofVal v, .none⟩ := by
  unfold binE
  dsimp only [flat]
  rw [h]
  rfl
theorem binOp_same (op : BinOp) (hs : op ≠ .shl ∧ op ≠ .shr) : Go.binOp op q (.int c x) (.int c y) = match op with
    | .add | .sub | .mul => Op.intArith op c x y
    | .quo | .rem => Op.intDiv op c x y
    | .and | .or | .xor | .andNot => Op.intBits op c x y
    | _ => Op.intCmp op x y := by
  cases op <;> simp [Go.binOp] at hs ⊢
theorem binE_add : binE P .add q (.v (.int c x)) (.v (.int c y)) = some ⟨[], nm c (c.wrap (x + y)), .none⟩ := binE_of .add (.int c (c.wrap (x + y))) (binOp_same .add (by simp))
theorem binE_sub : binE P .sub q (.v (.int c x)) (.v (.int c y)) = some ⟨[], nm c (c.wrap (x - y)), .none⟩ := binE_of .sub (.int c (c.wrap (x - y))) (binOp_same .sub (by simp))
theorem binE_mul : binE P .mul q (.v (.int c x)) (.v (.int c y)) = some ⟨[], nm c (c.wrap (x * y)), .none⟩ := binE_of .mul (.int c (c.wrap (x * y))) (binOp_same .mul (by simp))
theorem binE_none (op : BinOp) (hh : pureRun P (Go.binOp op q (.int c x) (.int c' y)) = none) : binE P op q (.v (.int c x)) (.v (.int c' y)) = none := by
  unfold binE
  dsimp only [flat]
  rw [hh]
theorem binE_quo : binE P .quo q (.v (.int c x)) (.v (.int c y)) = if y = 0 then none else some ⟨[], nm c (c.wrap (x.tdiv y)), .none⟩ := by
  by_cases h : y = 0
  · rw [if_pos h]
    exact binE_none .quo (by rw [binOp_same .quo (by simp)]; simp only [Op.intDiv, if_pos h]; rfl)
  · rw [if_neg h]
    exact binE_of .quo (.int c (c.wrap (x.tdiv y))) (by rw [binOp_same .quo (by simp)]; simp only [Op.intDiv, if_neg h]; rfl)
theorem binE_rem : binE P .rem q (.v (.int c x)) (.v (.int c y)) = if y = 0 then none else some ⟨[], nm c (x.tmod y), .none⟩ := by
  by_cases h : y = 0
  · rw [if_pos h]
    exact binE_none .rem (by rw [binOp_same .rem (by simp)]; simp only [Op.intDiv, if_pos h]; rfl)
  · rw [if_neg h]
    exact binE_of .rem (.int c (x.tmod y)) (by rw [binOp_same .rem (by simp)]; simp only [Op.intDiv, if_neg h]; rfl)
/-- Bits of whole numbers. -/
def andI (c : IntKind) (x y : Int) : Int := c.wrap (BitVec.ofInt c.bits x &&& BitVec.ofInt c.bits y).toNat
def orI (c : IntKind) (x y : Int) : Int := c.wrap (BitVec.ofInt c.bits x ||| BitVec.ofInt c.bits y).toNat
def xorI (c : IntKind) (x y : Int) : Int := c.wrap (BitVec.ofInt c.bits x ^^^ BitVec.ofInt c.bits y).toNat
def andNotI (c : IntKind) (x y : Int) : Int := c.wrap (BitVec.ofInt c.bits x &&& ~~~BitVec.ofInt c.bits y).toNat
theorem binE_and : binE P .and q (.v (.int c x)) (.v (.int c y)) = some ⟨[], nm c (andI c x y), .none⟩ := binE_of .and (.int c (andI c x y)) (binOp_same .and (by simp))
theorem binE_or : binE P .or q (.v (.int c x)) (.v (.int c y)) = some ⟨[], nm c (orI c x y), .none⟩ := binE_of .or (.int c (orI c x y)) (binOp_same .or (by simp))
theorem binE_xor : binE P .xor q (.v (.int c x)) (.v (.int c y)) = some ⟨[], nm c (xorI c x y), .none⟩ := binE_of .xor (.int c (xorI c x y)) (binOp_same .xor (by simp))
theorem binE_andNot : binE P .andNot q (.v (.int c x)) (.v (.int c y)) = some ⟨[], nm c (andNotI c x y), .none⟩ := binE_of .andNot (.int c (andNotI c x y)) (binOp_same .andNot (by simp))
theorem binE_shl : binE P .shl q (.v (.int c x)) (.v (.int c' y)) = if y < 0 then none else some ⟨[], nm c (c.wrap (x * 2 ^ min y.toNat c.bits)), .none⟩ := by
  have e : Go.binOp .shl q (.int c x) (.int c' y) = Op.shift .shl c x c' y := by simp [Go.binOp]
  by_cases h : y < 0
  · rw [if_pos h]
    exact binE_none .shl (by rw [e]; simp only [Op.shift, if_pos h]; rfl)
  · rw [if_neg h]
    exact binE_of .shl (.int c (c.wrap (x * 2 ^ min y.toNat c.bits))) (by rw [e]; simp only [Op.shift, if_neg h]; rfl)
theorem binE_shr : binE P .shr q (.v (.int c x)) (.v (.int c' y)) = if y < 0 then none else some ⟨[], nm c (x.fdiv (2 ^ min y.toNat c.bits)), .none⟩ := by
  have e : Go.binOp .shr q (.int c x) (.int c' y) = Op.shift .shr c x c' y := by simp [Go.binOp]
  by_cases h : y < 0
  · rw [if_pos h]
    exact binE_none .shr (by rw [e]; simp only [Op.shift, if_pos h]; rfl)
  · rw [if_neg h]
    exact binE_of .shr (.int c (x.fdiv (2 ^ min y.toNat c.bits))) (by rw [e]; simp only [Op.shift, if_neg h]; rfl)
theorem binE_lss : binE P .lss q (.v (.int c x)) (.v (.int c y)) = some ⟨[], .v (.bool (decide (x < y))), .none⟩ := binE_of .lss (.bool (decide (x < y))) (binOp_same .lss (by simp))
theorem binE_leq : binE P .leq q (.v (.int c x)) (.v (.int c y)) = some ⟨[], .v (.bool (decide (x ≤ y))), .none⟩ := binE_of .leq (.bool (decide (x ≤ y))) (binOp_same .leq (by simp))
theorem binE_gtr : binE P .gtr q (.v (.int c x)) (.v (.int c y)) = some ⟨[], .v (.bool (decide (y < x))), .none⟩ := binE_of .gtr (.bool (decide (y < x))) (binOp_same .gtr (by simp))
theorem binE_geq : binE P .geq q (.v (.int c x)) (.v (.int c y)) = some ⟨[], .v (.bool (decide (y ≤ x))), .none⟩ := binE_of .geq (.bool (decide (y ≤ x))) (binOp_same .geq (by simp))
theorem bits_i64 : IntKind.bits .i64 = 64 := (rfl)
theorem bits_u64 : IntKind.bits .u64 = 64 := (rfl)
theorem bits_u8 : IntKind.bits .u8 = 8 := (rfl)
theorem bits_u32 : IntKind.bits .u32 = 32 := (rfl)

/-! ### Equality -/
def eqR (neg : Bool) (r : Option Bool) (x : Option Eff) : Option Eff := match r with
  | some b => some ⟨[], .v (.bool (match neg with | true => !b | false => b)), .none⟩
  | none => x
theorem eqR_f {b : Bool} {z : Option Eff} : eqR false (some b) z = some ⟨[], .v (.bool b), .none⟩ := (rfl)
theorem eqR_t {b : Bool} {z : Option Eff} : eqR true (some b) z = some ⟨[], .v (.bool (!b)), .none⟩ := (rfl)
theorem eqR_none {neg : Bool} {z : Option Eff} : eqR neg none z = z := (rfl)
def negV (c : Bool) (b : Bool) : Bool := match c with
  | true => !b
  | false => b
def eqE (P : Program) (neg : Bool) (q : TypeId) (xo yo : Operand) (a b : AV) : Option Eff := match aEq P q a b with
  | some r => some ⟨[], .v (.bool (negV neg r)), .none⟩
  | none => match flat a with
    | some x => match flat b with
      | some y => match pureRun P (Sem.bind (eqGuard (match neg with | true => .neq | false => .eql) q xo yo x y) fun _ => Go.binOp (match neg with | true => .neq | false => .eql) q x y) with
        | some v => some ⟨[], ofVal v, .none⟩
        | none => none
      | none => none
    | none => none
theorem aStep_eqG {x y : Operand} {op : BinOp} {neg : Bool} (hn : op = match neg with | true => .neq | false => .eql) : effOf (aPure P (fun x => strip (ρ0 x)) ⟨d, .binOp op q x y u, ty, pos, af, gd⟩) = match flat (strip (ρ0 x)) with
    | some vx => match flat (strip (ρ0 y)) with
      | some vy => match pureRun P (Sem.bind (eqGuard op q x y vx vy) fun _ => Go.binOp op q vx vy) with
        | some v => some ⟨[], ofVal v, .none⟩
        | none => none
      | none => none
    | none => none := by
  unfold aPure
  dsimp only [Op.operands, List.map, flatAll]
  cases hx : flat (strip (ρ0 x)) with
  | none => rfl
  | some vx =>
    cases hy : flat (strip (ρ0 y)) with
    | none => rfl
    | some vy =>
      dsimp only
      have : execOp (fun x => (flat (strip (ρ0 x))).getD undef) ⟨d, .binOp op q x y u, ty, pos, af, gd⟩ = Sem.bind (Sem.bind (eqGuard op q x y vx vy) fun _ => Go.binOp op q vx vy) fun v => Sem.pure (Next.value v) := by
        show Sem.bind (Sem.bind (eqGuard op q x y ((flat (strip (ρ0 x))).getD undef) ((flat (strip (ρ0 y))).getD undef)) fun _ => Go.binOp op q ((flat (strip (ρ0 x))).getD undef) ((flat (strip (ρ0 y))).getD undef)) (fun v => Sem.pure (Next.value v)) = _
        rw [hx, hy]
        rfl
      rw [this, pureRun_bind]
      cases pureRun P (Sem.bind (eqGuard op q x y vx vy) fun _ => Go.binOp op q vx vy) <;> rfl
/-- Equality, pointers first. -/
def eqM (P : Program) (neg : Bool) (q : TypeId) (xo yo : Operand) (a b : AV) (m : Mem) : Option Eff := eqR neg (ptrEq (ptrKind P q) a b m) (eqE P neg q xo yo a b)
theorem aStep_eql2 {x y : Operand} : aStep P G key g ⟨d, .binOp .eql q x y u, ty, pos, af, gd⟩ ρ0 m = eqM P false q x y (strip (ρ0 x)) (strip (ρ0 y)) m := by
  rw [aStep_eql]
  unfold eqM boolE orElse
  cases ptrEq (ptrKind P q) (strip (ρ0 x)) (strip (ρ0 y)) m with
  | some r => cases r <;> rfl
  | none =>
    unfold eqR optB eqE
    dsimp only
    cases aEq P q (strip (ρ0 x)) (strip (ρ0 y)) with
    | some r => rfl
    | none => exact aStep_eqG (neg := false) rfl
theorem aStep_neq2 {x y : Operand} : aStep P G key g ⟨d, .binOp .neq q x y u, ty, pos, af, gd⟩ ρ0 m = eqM P true q x y (strip (ρ0 x)) (strip (ρ0 y)) m := by
  rw [aStep_neq]
  unfold eqM boolE orElse
  cases ptrEq (ptrKind P q) (strip (ρ0 x)) (strip (ρ0 y)) m with
  | some r => cases r <;> rfl
  | none =>
    unfold eqR optB eqE
    dsimp only
    cases aEq P q (strip (ρ0 x)) (strip (ρ0 y)) with
    | some r => rfl
    | none => exact aStep_eqG (neg := true) rfl
section
variable {neg : Bool} {xo yo : Operand}
theorem ptrEq_no (h : ∀ d, ptrEq d a b m = none) : eqM P neg q xo yo a b m = eqE P neg q xo yo a b := by
  unfold eqM
  rw [h]; rfl
theorem eqM_int : eqM P neg q xo yo (.v (.int c x)) b m = eqE P neg q xo yo (.v (.int c x)) b := ptrEq_no fun d => by rcases d with _ | _ | _ | _ | d <;> rfl
theorem eqM_bool {x : Bool} : eqM P neg q xo yo (.v (.bool x)) b m = eqE P neg q xo yo (.v (.bool x)) b := ptrEq_no fun d => by rcases d with _ | _ | _ | _ | d <;> rfl
theorem eqM_str {x : ByteArray} : eqM P neg q xo yo (.v (.string x)) b m = eqE P neg q xo yo (.v (.string x)) b := ptrEq_no fun d => by rcases d with _ | _ | _ | _ | d <;> rfl
theorem eqM_agg : eqM P neg q xo yo (.agg l) b m = eqE P neg q xo yo (.agg l) b := ptrEq_no fun d => by rcases d with _ | _ | _ | _ | d <;> rfl
theorem eqM_iface {w : TypeId} : eqM P neg q xo yo (.iface w a) b m = eqE P neg q xo yo (.iface w a) b := ptrEq_no fun d => by rcases d with _ | _ | _ | _ | d <;> rfl
theorem eqM_nilI : eqM P neg q xo yo (.v .nilIface) b m = eqE P neg q xo yo (.v .nilIface) b := ptrEq_no fun d => by rcases d with _ | _ | _ | _ | d <;> rfl
theorem eqM_own {r f n sz : Nat} : eqM P neg q xo yo (.own r f n sz) b m = eqR neg (ptrEq (ptrKind P q) (.own r f n sz) b m) (eqE P neg q xo yo (.own r f n sz) b) := (rfl)
theorem eqM_ro {n sz : Nat} {f : Nat → List AV} : eqM P neg q xo yo (.ro n sz f) b m = eqR neg (ptrEq (ptrKind P q) (.ro n sz f) b m) (eqE P neg q xo yo (.ro n sz f) b) := (rfl)
theorem ptrEq_ron {n sz : Nat} {f : Nat → List AV} : ptrEq 3 (.ro n sz f) (.v (.slice none 0 0)) m = if 0 < n then some false else none := (rfl)
theorem ptrEq_ownn {r f n sz : Nat} : ptrEq 3 (.own r f n sz) (.v (.slice none 0 0)) m = if 0 < n then some false else none := (rfl)
theorem eqM_nilS {x : Option Addr} : eqM P neg q xo yo (.v (.slice x n k)) b m = eqE P neg q xo yo (.v (.slice x n k)) b := ptrEq_no fun d => by rcases d with _ | _ | _ | _ | d <;> rfl
theorem eqM_nn : eqM P neg q xo yo (.v (.pointer none)) (.v (.pointer none)) m = eqE P neg q xo yo (.v (.pointer none)) (.v (.pointer none)) := ptrEq_no fun d => by rcases d with _ | _ | _ | _ | d <;> rfl
theorem eqM_mm : eqM P neg q xo yo (.v (.map none)) (.v (.map none)) m = eqE P neg q xo yo (.v (.map none)) (.v (.map none)) := ptrEq_no fun d => by rcases d with _ | _ | _ | _ | d <;> rfl
theorem eqM_bx {r : Nat} : eqM P neg q xo yo (.bx r k) b m = eqR neg (ptrEq (ptrKind P q) (.bx r k) b m) (eqE P neg q xo yo (.bx r k) b) := (rfl)
theorem eqM_mp {r f : Nat} : eqM P neg q xo yo (.mp r f) b m = eqR neg (ptrEq (ptrKind P q) (.mp r f) b m) (eqE P neg q xo yo (.mp r f) b) := (rfl)
theorem eqM_ptr {r f i sz : Nat} : eqM P neg q xo yo (.ptr r f i sz k) b m = eqR neg (ptrEq (ptrKind P q) (.ptr r f i sz k) b m) (eqE P neg q xo yo (.ptr r f i sz k) b) := (rfl)
theorem eqM_rop : eqM P neg q xo yo (.rop l) b m = eqR neg (ptrEq (ptrKind P q) (.rop l) b m) (eqE P neg q xo yo (.rop l) b) := (rfl)
theorem ptrEq_bn {r : Nat} : ptrEq 1 (.bx r k) (.v (.pointer none)) m = some false := (rfl)
theorem ptrEq_pn {r f i sz : Nat} : ptrEq 1 (.ptr r f i sz k) (.v (.pointer none)) m = some false := (rfl)
theorem ptrEq_rn : ptrEq 1 (.rop l) (.v (.pointer none)) m = some false := (rfl)
theorem ptrEq_mn {r f : Nat} : ptrEq 2 (.mp r f) (.v (.map none)) m = some false := (rfl)
def andQ (a b : Bool) : Option Bool := match a, b with
  | true, true => some false
  | _, _ => none
theorem andQ_tt : andQ true true = some false := (rfl)
theorem ptrEq_bb {r r' k' : Nat} : ptrEq 1 (.bx r k) (.bx r' k') m = if r = r' then none else andQ (oneRow (look m r)) (oneRow (look m r')) := by
  show (if r = r' then none else if oneRow (look m r) = true ∧ oneRow (look m r') = true then some false else none) = _
  split
  · rfl
  · cases oneRow (look m r) <;> cases oneRow (look m r') <;> rfl
theorem oneRow_1 {cs : List AV} {t : TypeId} : oneRow (some (fam1 t (n + 1) cs none)) = true := by
  simp [oneRow, fam1]
end
theorem aEq_int : aEq P q (.v (.int c x)) b = none := by
  unfold aEq
  show (match eqOkT P q with | true => _ | false => _) = _
  cases eqOkT P q
  · rfl
  · rfl
theorem aEq_bool {r : Bool} : aEq P q (.v (.bool r)) b = none := by
  unfold aEq
  show (match eqOkT P q with | true => _ | false => _) = _
  cases eqOkT P q
  · rfl
  · rfl
theorem eqE_int {xo yo : Operand} : eqE P false q xo yo (.v (.int c x)) (.v (.int c y)) = some ⟨[], .v (.bool (x == y)), .none⟩ := by
  unfold eqE
  rw [aEq_int]
  dsimp only [flat]
  have h : Go.binOp .eql q (.int c x) (.int c y) = Sem.pure (.bool (x == y)) := by rw [binOp_same .eql (by simp)]; rfl
  have : Sem.bind (eqGuard .eql q xo yo (.int c x) (.int c y)) (fun _ => Go.binOp .eql q (.int c x) (.int c y)) = Sem.pure (.bool (x == y)) := by rw [← h]; rfl
  rw [this]
  rfl
theorem neE_int {xo yo : Operand} : eqE P true q xo yo (.v (.int c x)) (.v (.int c y)) = some ⟨[], .v (.bool (x != y)), .none⟩ := by
  unfold eqE
  rw [aEq_int]
  dsimp only [flat]
  have h : Go.binOp .neq q (.int c x) (.int c y) = Sem.pure (.bool (x != y)) := by rw [binOp_same .neq (by simp)]; rfl
  have : Sem.bind (eqGuard .neq q xo yo (.int c x) (.int c y)) (fun _ => Go.binOp .neq q (.int c x) (.int c y)) = Sem.pure (.bool (x != y)) := by rw [← h]; rfl
  rw [this]
  rfl
theorem eqE_agg {xo yo : Operand} {neg r : Bool} (h : aEq P q (.agg l) (.agg cs) = some r) : eqE P neg q xo yo (.agg l) (.agg cs) = some ⟨[], .v (.bool (negV neg r)), .none⟩ := by
  unfold eqE
  rw [h]
theorem negV_true {r : Bool} : negV true r = !r := (rfl)
theorem negV_false {r : Bool} : negV false r = r := (rfl)
/-- Truth values. -/
theorem eqE_bool (hu : P.underlying q = some .bool) {xo yo : Operand} {r s : Bool} : eqE P false q xo yo (.v (.bool r)) (.v (.bool s)) = some ⟨[], .v (.bool (r == s)), .none⟩ := by
  unfold eqE
  rw [aEq_bool]
  dsimp only [flat]
  have : pureRun P (Sem.bind (eqGuard .eql q xo yo (.bool r) (.bool s)) (fun _ => Go.binOp .eql q (.bool r) (.bool s))) = some (.bool (r == s)) := by
    show pureRun P (Sem.bind (Op.equal q (.bool r) (.bool s)) fun b => Sem.pure (Value.bool b)) = _
    rw [pureRun_bind]
    have : pureRun P (Op.equal q (.bool r) (.bool s)) = some (r == s) := by
      show pureRun P (Op.equalIn (9999 + 1) q (.bool r) (.bool s)) = _
      unfold Op.equalIn
      show pureRun P (Sem.bind _ _) = _
      rw [pureRun_bind, pureRun_under hu]
      rfl
    rw [this]; rfl
  rw [this]
  rfl
theorem neE_bool (hu : P.underlying q = some .bool) {xo yo : Operand} {r s : Bool} : eqE P true q xo yo (.v (.bool r)) (.v (.bool s)) = some ⟨[], .v (.bool (!(r == s))), .none⟩ := by
  unfold eqE
  rw [aEq_bool]
  dsimp only [flat]
  have : pureRun P (Sem.bind (eqGuard .neq q xo yo (.bool r) (.bool s)) (fun _ => Go.binOp .neq q (.bool r) (.bool s))) = some (.bool (!(r == s))) := by
    show pureRun P (Sem.bind (Op.equal q (.bool r) (.bool s)) fun b => Sem.pure (Value.bool (!b))) = _
    rw [pureRun_bind]
    have : pureRun P (Op.equal q (.bool r) (.bool s)) = some (r == s) := by
      show pureRun P (Op.equalIn (9999 + 1) q (.bool r) (.bool s)) = _
      unfold Op.equalIn
      show pureRun P (Sem.bind _ _) = _
      rw [pureRun_bind, pureRun_under hu]
      rfl
    rw [this]; rfl
  rw [this]
  rfl

/-! ### One operand -/
def unE (P : Program) (op : UnOp) (a : AV) : Option Eff := match flat a with
  | some x => match pureRun P (Op.unary op x) with
    | some v => some ⟨[], ofVal v, .none⟩
    | none => none
  | none => none
theorem aStep_un2 {op : UnOp} {x : Operand} : aStep P G key g ⟨d, .unOp op q x, ty, pos, af, gd⟩ ρ0 m = unE P op (strip (ρ0 x)) := by
  rw [aStep_unOp]
  unfold aPure unE
  dsimp only [Op.operands, List.map, flatAll]
  cases hx : flat (strip (ρ0 x)) with
  | none => rfl
  | some vx =>
    dsimp only
    have : execOp (fun x => (flat (strip (ρ0 x))).getD undef) ⟨d, .unOp op q x, ty, pos, af, gd⟩ = Sem.bind (Op.unary op vx) fun v => Sem.pure (Next.value v) := by
      show Sem.bind (Op.unary op ((flat (strip (ρ0 x))).getD undef)) (fun v => Sem.pure (Next.value v)) = _
      rw [hx]; rfl
    rw [this, pureRun_bind]
    cases pureRun P (Op.unary op vx) <;> rfl
theorem unE_neg : unE P .neg (.v (.int c x)) = some ⟨[], nm c (c.wrap (0 - x)), .none⟩ := (rfl)
theorem unE_not {r : Bool} : unE P .not (.v (.bool r)) = some ⟨[], .v (.bool (!r)), .none⟩ := (rfl)
theorem unE_xor : unE P .xor (.v (.int c x)) = some ⟨[], nm c (xorI c (if c.signed then -1 else c.max) x), .none⟩ := (rfl)
def convE (P : Program) (q u : TypeId) (a : AV) : Option Eff := match flat a with
  | some x => match pureRun P (Go.convert q u x) with
    | some v => some ⟨[], ofVal v, .none⟩
    | none => none
  | none => none
theorem aStep_conv2 {x : Operand} : aStep P G key g ⟨d, .convert q u x, ty, pos, af, gd⟩ ρ0 m = convE P q u (strip (ρ0 x)) := by
  rw [aStep_convert]
  unfold aPure convE
  dsimp only [Op.operands, List.map, flatAll]
  cases hx : flat (strip (ρ0 x)) with
  | none => rfl
  | some vx =>
    dsimp only
    have : execOp (fun x => (flat (strip (ρ0 x))).getD undef) ⟨d, .convert q u x, ty, pos, af, gd⟩ = Sem.bind (Go.convert q u vx) fun v => Sem.pure (Next.value v) := by
      show Sem.bind (Go.convert q u ((flat (strip (ρ0 x))).getD undef)) (fun v => Sem.pure (Next.value v)) = _
      rw [hx]; rfl
    rw [this, pureRun_bind]
    cases pureRun P (Go.convert q u vx) <;> rfl
theorem convE_int (h1 : (P.underlying q).isSome = true) (h2 : P.underlying u = some (.int c')) : convE P q u (.v (.int c x)) = some ⟨[], nm c' (c'.wrap x), .none⟩ := by
  obtain ⟨dq, hq⟩ := Option.isSome_iff_exists.1 h1
  have : pureRun P (Go.convert q u (.int c x)) = some (.int c' (c'.wrap x)) := by
    unfold Go.convert
    show pureRun P (Sem.bind _ fun _ => Sem.bind _ _) = _
    rw [pureRun_bind]
    have e1 : pureRun P (underlying q) = some dq := pureRun_under hq
    have e2 : pureRun P (underlying u) = some (.int c') := pureRun_under h2
    rw [e1]
    dsimp only
    rw [pureRun_bind, e2]
    rfl
  unfold convE
  dsimp only [flat]
  rw [this]
  rfl

/-! ### Built-in functions -/
theorem gmax_eq {x y : Int} : gmax x y = max x y := by unfold gmax; omega
theorem gmin_eq {x y : Int} : gmin x y = min x y := by unfold gmin; omega
def mmS (P : Program) (mx : Bool) (o : Oper) (l : List AV) (ρ : Operand → AV) : Option Eff := match intsOf l with
  | some (x :: l) => some ⟨[], .v (.int .i64 (l.foldl (match mx with | true => gmax | false => gmin) x)), .none⟩
  | _ => effOf (aPure P ρ o)
theorem aStep_max2 {args : Array Operand} {ats : Array TypeId} : aStep P G key g ⟨d, .call ⟨.builtin .max, args, ats⟩, ty, pos, af, gd⟩ (opd t) m = mmS P true ⟨d, .call ⟨.builtin .max, args, ats⟩, ty, pos, af, gd⟩ (argsV t args.toList) (fun x => strip (opd t x)) := by
  rw [aStep_max', argsV_eq]
  unfold optB mmS
  cases intsOf (argsV t args.toList) with
  | none => rfl
  | some l => cases l <;> rfl
theorem aStep_min2 {args : Array Operand} {ats : Array TypeId} : aStep P G key g ⟨d, .call ⟨.builtin .min, args, ats⟩, ty, pos, af, gd⟩ (opd t) m = mmS P false ⟨d, .call ⟨.builtin .min, args, ats⟩, ty, pos, af, gd⟩ (argsV t args.toList) (fun x => strip (opd t x)) := by
  rw [aStep_min', argsV_eq]
  unfold optB mmS
  cases intsOf (argsV t args.toList) with
  | none => rfl
  | some l => cases l <;> rfl
theorem mmS_max2 {o : Oper} {ρ : Operand → AV} : mmS P true o [.v (.int .i64 x), .v (.int .i64 y)] ρ = some ⟨[], nm .i64 (max x y), .none⟩ := by
  rw [← gmax_eq]; rfl
theorem mmS_min2 {o : Oper} {ρ : Operand → AV} : mmS P false o [.v (.int .i64 x), .v (.int .i64 y)] ρ = some ⟨[], nm .i64 (min x y), .none⟩ := by
  rw [← gmin_eq]; rfl
theorem mmS_max3 {o : Oper} {ρ : Operand → AV} {z : Int} : mmS P true o [.v (.int .i64 x), .v (.int .i64 y), .v (.int .i64 z)] ρ = some ⟨[], nm .i64 (max (max x y) z), .none⟩ := by
  rw [← gmax_eq, ← gmax_eq]; rfl
theorem mmS_max4 {o : Oper} {ρ : Operand → AV} {z w : Int} : mmS P true o [.v (.int .i64 x), .v (.int .i64 y), .v (.int .i64 z), .v (.int .i64 w)] ρ = some ⟨[], nm .i64 (max (max (max x y) z) w), .none⟩ := by
  rw [← gmax_eq, ← gmax_eq, ← gmax_eq]; rfl
def lenR (n : Nat) (e : Option TypeId) : Option Eff := match e with
  | some _ => some ⟨[], .v (.int .i64 n), .none⟩
  | none => none
theorem lenR_some : lenR n (some q) = some ⟨[], .v (.int .i64 n), .none⟩ := (rfl)
def lenE (P : Program) (o : Oper) (q : TypeId) (a : AV) (ρ : Operand → AV) : Option Eff := match lenA a with
  | some n => lenR n (sElem P q)
  | none => effOf (aPure P ρ o)
/-- A length; maps too. -/
noncomputable def lenM (P : Program) (o : Oper) (q : TypeId) (a : AV) (ρ : Operand → AV) (m : Mem) : Option Eff := orElse (lenNew P m q a) (lenE P o q a ρ)
theorem aStep_len2 {x : Operand} : aStep P G key g ⟨d, .call ⟨.builtin .len, #[x], #[q]⟩, ty, pos, af, gd⟩ ρ0 m = lenM P ⟨d, .call ⟨.builtin .len, #[x], #[q]⟩, ty, pos, af, gd⟩ q (strip (ρ0 x)) (fun x => strip (ρ0 x)) m := by
  rw [aStep_len]
  unfold lenM
  congr 1
  unfold optB lenE lenR
  cases lenA (strip (ρ0 x)) with
  | none => rfl
  | some n => dsimp only; cases sElem P q <;> rfl
theorem lenM_ro {o : Oper} {ρ : Operand → AV} {f : Nat → List AV} : lenM P o q (.ro n sz f) ρ m = lenE P o q (.ro n sz f) ρ := (rfl)
theorem lenM_own {o : Oper} {ρ : Operand → AV} {r f : Nat} : lenM P o q (.own r f n sz) ρ m = lenE P o q (.own r f n sz) ρ := (rfl)
theorem lenM_vw {o : Oper} {ρ : Operand → AV} {r f lo : Nat} : lenM P o q (.vw r f lo n sz) ρ m = lenE P o q (.vw r f lo n sz) ρ := (rfl)
theorem lenM_v {o : Oper} {ρ : Operand → AV} {x : Value} : lenM P o q (.v x) ρ m = lenE P o q (.v x) ρ := (rfl)
def lenK (L : Ents) : Option Nat → Option Eff → Option Eff
  | some _, _ => some ⟨[], .v (.int .i64 L.length), .none⟩
  | none, z => z
theorem lenK_some {L : Ents} {z : Option Eff} : lenK L (some k) z = some ⟨[], .v (.int .i64 L.length), .none⟩ := (rfl)
theorem lenM_rm {o : Oper} {ρ : Operand → AV} {L : Ents} : lenM P o q (.rm n L) ρ m = lenK L (mapLay P q) (lenE P o q (.rm n L) ρ) := by
  unfold lenM lenNew
  dsimp only
  cases mapLay P q <;> rfl
def mapM (x : Option Eff) (y : Option Eff) : Option Eff := match x with
  | some e => some e
  | none => y
theorem mapM_some {e : Eff} {y : Option Eff} : mapM (some e) y = some e := (rfl)
theorem lenM_mp {o : Oper} {ρ : Operand → AV} {r f : Nat} : lenM P o q (.mp r f) ρ m = mapM (mapLen f (mapLay P q) (look m r)) (lenE P o q (.mp r f) ρ) := by
  show orElse (mapLen f (mapLay P q) (look m r)) _ = _
  generalize mapLen f (mapLay P q) (look m r) = z
  cases z <;> rfl
theorem lenE_ro {o : Oper} {ρ : Operand → AV} {f : Nat → List AV} : lenE P o q (.ro n sz f) ρ = lenR n (sElem P q) := (rfl)
theorem lenE_own {o : Oper} {ρ : Operand → AV} {r f : Nat} : lenE P o q (.own r f n sz) ρ = lenR n (sElem P q) := (rfl)
theorem lenE_vw {o : Oper} {ρ : Operand → AV} {r f lo : Nat} : lenE P o q (.vw r f lo n sz) ρ = lenR n (sElem P q) := (rfl)

/-! ### Picks -/
def orE (na : List Prop) (x y : Option Bool) (nb : List Prop) : Option Eff := match x with
  | some t => match y with
    | some q => some ⟨na ++ nb.map (t = false → ·), .v (.bool (t || q)), .none⟩
    | none => none
  | none => none
def andE (na : List Prop) (x y : Option Bool) (nb : List Prop) : Option Eff := match x with
  | some t => match y with
    | some q => some ⟨na ++ nb.map (t = true → ·), .v (.bool (t && q)), .none⟩
    | none => none
  | none => none
theorem orE_some {na nb : List Prop} {r s : Bool} : orE na (some r) (some s) nb = some ⟨na ++ nb.map (r = false → ·), .v (.bool (r || s)), .none⟩ := (rfl)
theorem andE_some {na nb : List Prop} {r s : Bool} : andE na (some r) (some s) nb = some ⟨na ++ nb.map (r = true → ·), .v (.bool (r && s)), .none⟩ := (rfl)
theorem aStep_or3 {xo yo : Operand} : aStep P G key g ⟨d, .pick xo (.const (.bool true)) yo, ty, pos, af, gd⟩ ρ0 m = orE (needs [ρ0 xo]) (boolOf (strip (ρ0 xo))) (boolOf (strip (ρ0 yo))) (needs [ρ0 yo]) := by
  rw [aStep_pick, aPick_or]
  unfold optB orE
  cases boolOf (strip (ρ0 xo)) with
  | none => rfl
  | some r => dsimp only; cases boolOf (strip (ρ0 yo)) <;> rfl
theorem aStep_and3 {xo : Operand} : aStep P G key g ⟨d, .pick xo (.tmp j) (.const (.bool false)), ty, pos, af, gd⟩ ρ0 m = andE (needs [ρ0 xo]) (boolOf (strip (ρ0 xo))) (boolOf (strip (ρ0 (.tmp j)))) (needs [ρ0 (.tmp j)]) := by
  rw [aStep_pick, aPick_and]
  unfold optB andE
  cases boolOf (strip (ρ0 xo)) with
  | none => rfl
  | some r => dsimp only; cases boolOf (strip (ρ0 (.tmp j))) <;> rfl
theorem boolOf_bool {r : Bool} : boolOf (.v (.bool r)) = some r := (rfl)
theorem isPick_pick {xo yo zo : Operand} : isPick (.pick xo yo zo) = true := (rfl)

/-! ### Calls -/
def callY (gs : List Prop) (x : Option (List Prop × AV)) : Option (List Prop × AV) := match x with
  | some (ob, r) => match plain 3 r with
    | true => some (gs ++ ob, r)
    | false => none
  | none => none
def callZ (c : Bool) (ob : List Prop) (r : AV) : Option (List Prop × AV) := match c with
  | true => some (ob, r)
  | false => none
theorem callY_some {gs ob : List Prop} : callY gs (some (ob, a)) = callZ (plain 3 a) (gs ++ ob) a := by
  show (match plain 3 a with
    | true => some (gs ++ ob, a)
    | false => none) = _
  cases plain 3 a <;> rfl
theorem callZ_true {ob : List Prop} : callZ true ob a = some (ob, a) := (rfl)
noncomputable def callX (c : Bool) (f : Con) (l : List AV) (m : Mem) : Option (List Prop × AV) := match c with
  | true => f l
  | false => callY (l.flatMap (pgs 3 m)) (f (l.map (purU 3 m)))
theorem callX_true {f : Con} : callX true f l m = f l := (rfl)
noncomputable def callD (x : Option Con) (l : List AV) (m : Mem) : Option (List Prop × AV) := match x with
  | some f => callX (l.all (clean 3)) f l m
  | none => none
noncomputable def callF (g : Option Bool) (key : Nat) (m : Mem) (l : List AV) (f : FuncId) : Option CE → Option Eff
  | some (.wr c) => bndE (aMut g (c key m l))
  | some (.pure c) => bndE (effOf2 (callD (if f < 1000000 then some c else none) l m))
  | none => none
theorem callF_pure {f : FuncId} {c : Con} : callF g key m l f (some (.pure c)) = bndE (effOf2 (callD (if f < 1000000 then some c else none) l m)) := (rfl)
theorem callF_mut {f : FuncId} {c : MCon} : callF g key m l f (some (.wr c)) = bndE (aMut g (c key m l)) := (rfl)
theorem aMut_many {ob : List Prop} {p : Nat × Fam} {sets : List (Nat × Fam)} {nw : Option Fam} : aMut none (some ⟨ob, a, .many (p :: sets) nw⟩) = some ⟨ob, a, .many (p :: sets) nw⟩ := (rfl)
theorem aMut_one {ob : List Prop} {x : Fam} : aMut none (some ⟨ob, a, .many [] (some x)⟩) = some ⟨ob, a, .new x⟩ := (rfl)
theorem aMut_nil {ob : List Prop} : aMut none (some ⟨ob, a, .many [] none⟩) = some ⟨ob, a, .many [] none⟩ := (rfl)
noncomputable def callE (G : Ctx) (g : Option Bool) (key : Nat) (m : Mem) (l : List AV) (f : AV) : Option Eff := match f with
  | .fn f cap => callF g key m (l ++ cap) f (ctxGet G f)
  | _ => none
theorem callE_fn {f : FuncId} : callE G g key m l (.fn f cs) = callF g key m (l ++ cs) f (ctxGet G f) := (rfl)
theorem bndE_some {ob : List Prop} {u : Upd} : bndE (some ⟨ob, a, u⟩) = some ⟨ob, bnd a, u⟩ := (rfl)
theorem bndE_eq (x : Option Eff) : bndE x = x := by
  rcases x with _ | ⟨_, _, _⟩ <;> rfl
theorem aCall_D {f : FuncId} : aCall G f l m = callD (ctxCall G f) l m := by
  unfold aCall callD
  cases ctxCall G f with
  | none => rfl
  | some c =>
    dsimp only
    unfold callX
    cases l.all (clean 3) with
    | true => rfl
    | false =>
      dsimp only
      unfold callY
      cases c (l.map (purU 3 m)) with
      | none => rfl
      | some p => rfl
theorem aStep_call2 {f : Operand} {args : Array Operand} {ats : Array TypeId} : aStep P G key g ⟨d, .call ⟨.value f, args, ats⟩, ty, pos, af, gd⟩ (opd t) m = callE G g key m (argsV t args.toList) (strip (opd t f)) := by
  rw [aStep_call, argsV_eq]
  unfold fnK callE
  cases strip (opd t f) with
  | fn h cap =>
    dsimp only
    unfold optB callF
    cases hc : ctxGet G h with
    | none =>
      simp only [mutOf]
      rw [aCall_D]
      unfold ctxCall
      rw [hc]
      by_cases hl : h < 1000000 <;> simp [hl, pureOf, callD, effOf2]
    | some c =>
      cases c with
      | wr c => simp only [mutOf, bndE_eq]
      | pure c =>
        simp only [mutOf]
        rw [aCall_D, bndE_eq]
        unfold ctxCall
        rw [hc]
        rfl
  | _ => rfl
noncomputable def invF (G : Ctx) (m : Mem) (l : List AV) (f : Option FuncId) : Option Eff := match f with
  | some f => bndE (effOf2 (callD (ctxCall G f) l m))
  | none => none
theorem invF_some {f : FuncId} : invF G m l (some f) = bndE (effOf2 (callD (ctxCall G f) l m)) := (rfl)
noncomputable def invE (P : Program) (G : Ctx) (m : Mem) (name : String) (l : List AV) (r : AV) : Option Eff := match r with
  | .iface t x => invF G m (x :: l) (methT P t name)
  | .v .nilIface => some ⟨[False], .v (.bool false), .none⟩
  | _ => none
theorem invE_iface {name : String} : invE P G m name l (.iface q a) = invF G m (a :: l) (methT P q name) := (rfl)
theorem invE_nil {name : String} : invE P G m name l (.v .nilIface) = some ⟨[False], .v (.bool false), .none⟩ := (rfl)
theorem aStep_invoke2 {r : Operand} {name : String} {args : Array Operand} {ats : Array TypeId} : aStep P G key g ⟨d, .call ⟨.invoke r name, args, ats⟩, ty, pos, af, gd⟩ (opd t) m = invE P G m name (argsV t args.toList) (strip (opd t r)) := by
  show (match strip (opd t r) with
    | .iface t' x => match methT P t' name with
      | some h => effOf2 (aCall G h (x :: args.toList.map (fun x => strip (opd t x))) m)
      | none => none
    | .v .nilIface => some ⟨[False], .v (.bool false), .none⟩
    | _ => none) = _
  rw [argsV_eq]
  unfold invE invF
  cases strip (opd t r) with
  | iface q x =>
    dsimp only
    cases methT P q name with
    | none => rfl
    | some h => dsimp only; rw [aCall_D, bndE_eq]
  | v x => cases x <;> rfl
  | _ => rfl
theorem ctxCall_eq {f : FuncId} : ctxCall G f = if f < 1000000 then pureOf (ctxGet G f) else none := (rfl)
theorem pureOf_pure {c : Con} : pureOf (some (.pure c)) = some c := (rfl)
theorem ctxGet_cons {f h : FuncId} {c : CE} : ctxGet ((f, c) :: G) h = if f = h then some c else ctxGet G h := (rfl)

theorem stepC_ite {p : Prop} [Decidable p] {x : Option Eff} : stepC P G H K0 hot ops d rest i st t m nx (if p then none else x) = (¬ p ∧ stepC P G H K0 hot ops d rest i st t m nx x) := by
  by_cases h : p
  · simp [h, stepC, optK]
  · simp [h]
theorem withOb_ite {p : Prop} [Decidable p] {x : Option Eff} {ob : List Prop} : withOb ob (if p then none else x) = if p then none else withOb ob x := by
  by_cases h : p <;> simp [h, withOb]

end
end Go.Ax
end

section
/-
  Equations of first order: what a function hands back; loops.
-/
set_option linter.unusedVariables false
set_option linter.unusedSimpArgs false
namespace Go.Ax

section
variable {P : Program} {G : Ctx} {H : Hots} {K0 : AEx → St → Prop} {st : List Fr} {s s' : St} {n sz i j k key d nx : Nat} {t : Slots} {m : Mem} {a b : AV} {l cs : List AV} {ty q : TypeId} {Q : AV → Prop} {rs : List ResultVar} {g : Option Bool}

/-! ### Results -/
def tmpE (a : AV) : Option Eff := match a with
  | .cond _ _ => none
  | a => some ⟨[], a, .none⟩
theorem tmpE_v {x : Value} : tmpE (.v x) = some ⟨[], .v x, .none⟩ := (rfl)
theorem tmpE_agg : tmpE (.agg l) = some ⟨[], .agg l, .none⟩ := (rfl)
theorem tmpE_ro {f : Nat → List AV} : tmpE (.ro n sz f) = some ⟨[], .ro n sz f, .none⟩ := (rfl)
theorem tmpE_own {r f : Nat} : tmpE (.own r f n sz) = some ⟨[], .own r f n sz, .none⟩ := (rfl)
theorem tmpE_vw {r f lo : Nat} : tmpE (.vw r f lo n sz) = some ⟨[], .vw r f lo n sz, .none⟩ := (rfl)
theorem tmpE_fn {f : FuncId} : tmpE (.fn f l) = some ⟨[], .fn f l, .none⟩ := (rfl)
theorem tmpE_iface : tmpE (.iface q a) = some ⟨[], .iface q a, .none⟩ := (rfl)
theorem tmpE_rop : tmpE (.rop l) = some ⟨[], .rop l, .none⟩ := (rfl)
theorem tmpE_bx : tmpE (.bx n k) = some ⟨[], .bx n k, .none⟩ := (rfl)
def resE (P : Program) (t : Slots) (m : Mem) (r : ResultVar) : Option Eff := match r with
  | .tmp k => tmpE (slot t k)
  | .cell a ty => loadA P ty (slot t a) m
theorem resE_tmp : resE P t m (.tmp k) = tmpE (slot t k) := (rfl)
theorem resE_cell : resE P t m (.cell k ty) = loadA P ty (slot t k) m := (rfl)
def retQ (m : Mem) (Q : AV → Prop) (l : List AV) : Prop := match l with
  | [a] => Q (pur 3 m a)
  | es => Q (pur 3 m (.tup es))
theorem retQ_one : retQ m Q [a] = Q (pur 3 m a) := (rfl)
theorem retQ_none : retQ m Q [] = Q (pur 3 m (.tup [])) := (rfl)
theorem retQ_more : retQ m Q (a :: b :: l) = Q (pur 3 m (.tup (a :: b :: l))) := (rfl)
def retL (P : Program) (t : Slots) (m : Mem) (Q : AV → Prop) : List ResultVar → List AV → Prop
  | [], l => retQ m Q l
  | r :: rs, l => match resE P t m r with
    | some e => conj e.ob (retL P t m Q rs (l ++ [e.val]))
    | none => False
def retS (P : Program) (t : Slots) (m : Mem) (Q : AV → Prop) (rs : List ResultVar) (l : List AV) (x : Option Eff) : Prop := match x with
  | some e => conj e.ob (retL P t m Q rs (l ++ [e.val]))
  | none => False
theorem retL_nil : retL P t m Q [] l = retQ m Q l := (rfl)
theorem retL_cons {r : ResultVar} : retL P t m Q (r :: rs) l = retS P t m Q rs l (resE P t m r) := (rfl)
theorem retS_some {ob : List Prop} {u : Upd} : retS P t m Q rs l (some ⟨ob, a, u⟩) = conj ob (retL P t m Q rs (l ++ [a])) := (rfl)
def endR (P : Program) (rs : List ResultVar) (Q : AV → Prop) (e : AEx) (s : St) : Prop := match e with
  | .exit _ => False
  | _ => retL P s.t s.m Q rs []
theorem endR_ret : endR P rs Q .ret ⟨t, m, nx⟩ = retL P t m Q rs [] := (rfl)
theorem endR_normal : endR P rs Q .normal ⟨t, m, nx⟩ = retL P t m Q rs [] := (rfl)

theorem conj_mono : ∀ {p : List Prop} {k k' : Prop}, (k → k') → conj p k → conj p k'
  | [], _, _, h, x => h x
  | _ :: _, _, _, h, x => ⟨x.1, conj_mono h x.2⟩
theorem resOf_E {r : ResultVar} {e : Eff} (h : resE P s.t s.m r = some e) : resOf P r s = some (e.ob, e.val) := by
  cases r with
  | tmp k =>
    simp only [resE, tmpE] at h
    simp only [resOf]
    split at h
    · cases h
    · rename_i a hne
      cases h
      split
      · rename_i c x hc; exact (hne c x hc).elim
      · rfl
  | cell k ty =>
    simp only [resE, loadA, effOf2] at h
    simp only [resOf]
    split at h
    · rename_i ob x hx; cases h; exact hx
    · cases h
theorem retL_sound : ∀ {rs : List ResultVar} {l : List AV}, retL P s.t s.m Q rs l → ∃ ob es, resList P s rs = some (ob, es) ∧ (∀ p ∈ ob, p) ∧ retQ s.m Q (l ++ es)
  | [], l, h => ⟨[], [], rfl, by simp, by simpa [retL] using h⟩
  | r :: rs, l, h => by
    simp only [retL] at h
    split at h
    · rename_i e he
      obtain ⟨ob, es, h1, h2, h3⟩ := retL_sound (rs := rs) (conj_iff.1 h).2
      refine ⟨e.ob ++ ob, e.val :: es, ?_, fun p hp => ?_, by simpa using h3⟩
      · simp only [resList, resOf_E he, h1]
      · rcases List.mem_append.1 hp with hp | hp
        · exact (conj_iff.1 h).1 p hp
        · exact h2 p hp
    · exact h.elim
theorem endR_sound {fn : Func} (hr : fn.results.toList = rs) {e : AEx} (h : endR P rs Q e s) : endK P fn Q e s := by
  have key : retL P s.t s.m Q rs [] → match resAll P s fn.results.toList with
      | some (ob, a) => conj ob (Q (pur 3 s.m a))
      | none => False := fun h => by
    obtain ⟨ob, es, h1, h2, h3⟩ := retL_sound h
    rw [hr]
    simp only [resAll, h1]
    rw [List.nil_append] at h3
    cases es with
    | nil => exact conj_iff.2 ⟨h2, h3⟩
    | cons a es => cases es with
      | nil => exact conj_iff.2 ⟨h2, h3⟩
      | cons b es => exact conj_iff.2 ⟨h2, h3⟩
  cases e with
  | exit j => exact h.elim
  | normal => exact key h
  | ret => exact key h

theorem awp_mono {K K' : AEx → St → Prop} (hK : ∀ e s, K e s → K' e s) : ∀ {c : Code} {s : St}, awp P G H c s K → awp P G H c s K'
  | .skip, s, h => hK _ _ h
  | .region id ops draw, s, h => regP_mono (fun s h => hK _ _ h) h
  | .seq a b, s, h => awp_mono (c := a) (fun e s => by cases e <;> first | exact fun h => awp_mono hK h | exact hK _ _) h
  | .cond c x y, s, h => by
    simp only [awp, optK] at h ⊢
    split at h
    · exact ⟨fun e => awp_mono hK (h.1 e), fun e => awp_mono hK (h.2 e)⟩
    · exact h
  | .block id c, s, h => awp_mono (c := c) (fun e s => by
      cases e with
      | normal => exact hK _ _
      | ret => exact hK _ _
      | exit j => intro h; simp only [blockK] at h ⊢; split at h <;> simp_all) h
  | .ret, s, h => hK _ _ h
  | .exit id, s, h => hK _ _ h
  | .loop c, s, h => by
    obtain ⟨X, I, h0, h1⟩ := h
    exact ⟨X, I, h0, fun x hx => awp_mono (c := c) (fun e s => by cases e <;> first | exact fun h => h | exact hK _ _) (h1 x hx)⟩
  | .rangeFunc g ps x c, s, h => by
    simp only [awp, optK] at h ⊢
    split at h
    · obtain ⟨hob, h1, X, I, cnt, h2, h3, h4, h5⟩ := conj_iff.1 h
      refine conj_iff.2 ⟨hob, h1, X, I, cnt, h2, h3, fun y hy hc => awp_mono (c := x) (fun e s => ?_) (h4 y hy hc), fun y hy hc => hK _ _ (h5 y hy hc)⟩
      cases e with
      | normal => exact fun h => awp_mono (c := c) (fun e s => by cases e <;> first | exact fun h => h | exact hK _ _) h
      | exit j => exact fun h => h
      | ret => exact fun h => h
    · exact h
  | .scope c, s, h => awp_mono (c := c) hK h
  | .label .., s, h => hK _ _ h
  | .goto .., s, h => h.elim
  | .refuse .., s, h => h.elim

/-- A function's body. -/
theorem fnVC_go {fn : Func} {c : Code} {es : List AV} (hb : fn.body = some c) (hr : fn.results.toList = rs) (h : goC P G H (endR P rs Q) c [] ⟨argSlots 0 es, [], 0⟩) : fnVC P G H fn es Q := by
  unfold fnVC
  rw [hb]
  exact awp_mono (fun e s h => endR_sound hr h) h

theorem argSlots_nil : argSlots i [] = [] := (rfl)
theorem argSlots_cons : argSlots i (a :: l) = (i, a) :: argSlots (i + 1) l := (rfl)

/-! ### What an outsider sees -/
theorem pur_v {x : Value} : pur d m (.v x) = .v x := by cases d <;> rfl
theorem pur_any : pur d m .any = .any := by cases d <;> rfl
theorem pur_ro {f : Nat → List AV} : pur d m (.ro n sz f) = .ro n sz f := by cases d <;> rfl
theorem pur_rop : pur d m (.rop l) = .rop l := by cases d <;> rfl
/-- 'pur' in each of several. -/
def purL (d : Nat) (m : Mem) : List AV → List AV
  | [] => []
  | a :: l => pur d m a :: purL d m l
theorem purL_eq : ∀ {l : List AV}, l.map (pur d m) = purL d m l
  | [] => rfl
  | a :: l => by rw [List.map_cons, purL_eq]; rfl
theorem purL_nil : purL d m [] = [] := (rfl)
theorem purL_cons : purL d m (a :: l) = pur d m a :: purL d m l := (rfl)
theorem pur_agg : pur (d + 1) m (.agg l) = .agg (purL d m l) := by rw [← purL_eq]; rfl
theorem pur_tup : pur (d + 1) m (.tup l) = .tup (purL d m l) := by rw [← purL_eq]; rfl
theorem pur_iface : pur (d + 1) m (.iface q a) = .iface q (pur d m a) := (rfl)
theorem pur_fn {f : FuncId} : pur (d + 1) m (.fn f l) = .fn f (purL d m l) := by rw [← purL_eq]; rfl
def purB (d k : Nat) (m : Mem) (x : Option Fam) : AV := match x with
  | some fam => match (fam 0).n, (fam 0).g with
    | 1, none => .rop ((((fam 0).get 0).drop k).map (pur d m))
    | _, _ => .any
  | none => .any
theorem pur_bx {r : Nat} : pur (d + 1) m (.bx r k) = purB d k m (look m r) := (rfl)
theorem purB_1 : purB d k m (some (fam1 ty sz cs none)) = .rop (purL d m (cs.drop k)) := by rw [← purL_eq]; rfl
/-- Rows ars an outsider sees them. -/
def rowG (d : Nat) (m : Mem) (get : Nat → List AV) : Nat → List AV := fun i => purL d m (get i)
theorem rowG_eq {get : Nat → List AV} : rowG d m get = fun i => purL d m (get i) := (rfl)
def purO (d f n sz : Nat) (m : Mem) (x : Option Fam) : AV := match x with
  | some fam => match (fam f).g with
    | none => if n ≤ (fam f).n ∧ sz = (fam f).sz then .ro n sz (fun i => ((fam f).get i).map (pur d m)) else .any
    | some _ => .any
  | none => .any
theorem pur_own {r f : Nat} : pur (d + 1) m (.own r f n sz) = purO d f n sz m (look m r) := (rfl)
theorem purO_N {n' sz' : Nat} {get : Nat → List AV} (h : n ≤ n' ∧ sz = sz') : purO d 0 n sz m (some (famN n' sz' ty get none)) = .ro n sz (rowG d m get) := by
  show (if n ≤ n' ∧ sz = sz' then AV.ro n sz (fun i => (get i).map (pur d m)) else .any) = _
  rw [if_pos h]
  congr 1
  funext i
  exact purL_eq
def purW (d f lo n sz : Nat) (m : Mem) (x : Option Fam) : AV := match x with
  | some fam => match (fam f).g with
    | none => if lo + n ≤ (fam f).n ∧ sz = (fam f).sz then .ro n sz (fun i => ((fam f).get (lo + i)).map (pur d m)) else .any
    | some _ => .any
  | none => .any
theorem pur_vw {r f lo : Nat} : pur (d + 1) m (.vw r f lo n sz) = purW d f lo n sz m (look m r) := (rfl)
theorem purW_N {n' sz' lo : Nat} {get : Nat → List AV} (h : lo + n ≤ n' ∧ sz = sz') : purW d 0 lo n sz m (some (famN n' sz' ty get none)) = .ro n sz (fun i => purL d m (get (lo + i))) := by
  show (if lo + n ≤ n' ∧ sz = sz' then AV.ro n sz (fun i => (get (lo + i)).map (pur d m)) else .any) = _
  rw [if_pos h]
  congr 1
  funext i
  exact purL_eq

/-! ### What a callee sees -/
noncomputable def purUL (d : Nat) (m : Mem) : List AV → List AV
  | [] => []
  | a :: l => purU d m a :: purUL d m l
theorem purUL_eq : ∀ {l : List AV}, l.map (purU d m) = purUL d m l
  | [] => rfl
  | a :: l => by rw [List.map_cons, purUL_eq]; rfl
theorem purUL_nil : purUL d m [] = [] := (rfl)
theorem purUL_cons : purUL d m (a :: l) = purU d m a :: purUL d m l := (rfl)
theorem purU_v {x : Value} : purU d m (.v x) = .v x := by cases d <;> rfl
theorem purU_any : purU d m .any = .any := by cases d <;> rfl
theorem purU_ro {f : Nat → List AV} : purU d m (.ro n sz f) = .ro n sz f := by cases d <;> rfl
theorem purU_rop : purU d m (.rop l) = .rop l := by cases d <;> rfl
theorem purU_agg : purU (d + 1) m (.agg l) = .agg (purUL d m l) := by rw [← purUL_eq]; rfl
theorem purU_tup : purU (d + 1) m (.tup l) = .tup (purUL d m l) := by rw [← purUL_eq]; rfl
theorem purU_iface : purU (d + 1) m (.iface q a) = .iface q (purU d m a) := (rfl)
theorem purU_fn {f : FuncId} : purU (d + 1) m (.fn f l) = .fn f (purUL d m l) := by rw [← purUL_eq]; rfl
noncomputable def purUB (d k : Nat) (m : Mem) (x : Option Fam) : AV := match x with
  | some fam => match (fam 0).n with
    | 1 => .rop ((((fam 0).get 0).drop k).map (purU d m))
    | _ => .any
  | none => .any
theorem purU_bx {r : Nat} : purU (d + 1) m (.bx r k) = purUB d k m (look m r) := (rfl)
theorem purUB_1 : purUB d k m (some (fam1 ty sz cs g)) = .rop (purUL d m (cs.drop k)) := by rw [← purUL_eq]; rfl
def purUO (d f n sz : Nat) (m : Mem) (x : Option Fam) : AV := match x with
  | some fam => if n ≤ (fam f).n ∧ sz = (fam f).sz then .ro n sz (fun i => ((fam f).get i).map (pur d m)) else .any
  | none => .any
theorem purU_own {r f : Nat} : purU (d + 1) m (.own r f n sz) = purUO d f n sz m (look m r) := (rfl)
theorem purUO_N {n' sz' : Nat} {get : Nat → List AV} (h : n ≤ n' ∧ sz = sz') : purUO d 0 n sz m (some (famN n' sz' ty get g)) = .ro n sz (rowG d m get) := by
  show (if n ≤ n' ∧ sz = sz' then AV.ro n sz (fun i => (get i).map (pur d m)) else .any) = _
  rw [if_pos h]
  congr 1
  funext i
  exact purL_eq
theorem purL_take : ∀ {l : List AV} {n : Nat}, purL d m (l.take n) = (purL d m l).take n := by
  intro l n; rw [← purL_eq, ← purL_eq, List.map_take]
theorem purL_drop : ∀ {l : List AV} {n : Nat}, purL d m (l.drop n) = (purL d m l).drop n := by
  intro l n; rw [← purL_eq, ← purL_eq, List.map_drop]
theorem rowG_rows {l : List AV} : rowG d m (rowsOf sz l) = rowsOf sz (purL d m l) := by
  funext i; unfold rowG rowsOf; rw [purL_take, purL_drop]
def purUW (d f lo n sz : Nat) (m : Mem) (x : Option Fam) : AV := match x with
  | some fam => if lo + n ≤ (fam f).n ∧ sz = (fam f).sz then .ro n sz (fun i => ((fam f).get (lo + i)).map (pur d m)) else .any
  | none => .any
theorem purU_vw {r f lo : Nat} : purU (d + 1) m (.vw r f lo n sz) = purUW d f lo n sz m (look m r) := (rfl)
theorem purUW_N {n' sz' lo : Nat} {get : Nat → List AV} (h : lo + n ≤ n' ∧ sz = sz') : purUW d 0 lo n sz m (some (famN n' sz' ty get g)) = .ro n sz (fun i => purL d m (get (lo + i))) := by
  show (if lo + n ≤ n' ∧ sz = sz' then AV.ro n sz (fun i => (get (lo + i)).map (pur d m)) else .any) = _
  rw [if_pos h]
  congr 1
  funext i
  exact purL_eq
/-- The guards of the rows in several. -/
def pgsL (d : Nat) (m : Mem) : List AV → List Prop
  | [] => []
  | a :: l => pgs d m a ++ pgsL d m l
theorem pgsL_eq : ∀ {l : List AV}, l.flatMap (pgs d m) = pgsL d m l
  | [] => rfl
  | a :: l => by rw [List.flatMap_cons, pgsL_eq]; rfl
theorem pgsL_nil : pgsL d m [] = [] := (rfl)
theorem pgsL_cons : pgsL d m (a :: l) = pgs d m a ++ pgsL d m l := (rfl)
theorem pgs_v {x : Value} : pgs d m (.v x) = [] := by cases d <;> rfl
theorem pgs_any : pgs d m .any = [] := by cases d <;> rfl
theorem pgs_ro {f : Nat → List AV} : pgs d m (.ro n sz f) = [] := by cases d <;> rfl
theorem pgs_rop : pgs d m (.rop l) = [] := by cases d <;> rfl
theorem pgs_agg : pgs (d + 1) m (.agg l) = pgsL d m l := by rw [← pgsL_eq]; rfl
theorem pgs_tup : pgs (d + 1) m (.tup l) = pgsL d m l := by rw [← pgsL_eq]; rfl
theorem pgs_iface : pgs (d + 1) m (.iface q a) = pgs d m a := (rfl)
theorem pgs_fn {f : FuncId} : pgs (d + 1) m (.fn f l) = pgsL d m l := by rw [← pgsL_eq]; rfl
def pgsB (d k : Nat) (m : Mem) (x : Option Fam) : List Prop := match x with
  | some fam => gOb (fam 0).g ((((fam 0).get 0).drop k).flatMap (pgs d m))
  | none => []
theorem pgs_bx {r : Nat} : pgs (d + 1) m (.bx r k) = pgsB d k m (look m r) := (rfl)
theorem pgsB_1 : pgsB d k m (some (fam1 ty sz cs g)) = gOb g (pgsL d m (cs.drop k)) := by rw [← pgsL_eq]; rfl
def pgsO (f : Nat) (x : Option Fam) : List Prop := match x with
  | some fam => gOb (fam f).g []
  | none => []
theorem pgs_own {r f : Nat} : pgs (d + 1) m (.own r f n sz) = pgsO f (look m r) := (rfl)
theorem pgs_vw {r f lo : Nat} : pgs (d + 1) m (.vw r f lo n sz) = pgsO f (look m r) := (rfl)
theorem pgsO_N {n' sz' : Nat} {get : Nat → List AV} : pgsO 0 (some (famN n' sz' ty get g)) = gOb g [] := (rfl)

def cleanL (d : Nat) : List AV → Bool
  | [] => true
  | a :: l => clean d a && cleanL d l
theorem cleanL_eq : ∀ {l : List AV}, l.all (clean d) = cleanL d l
  | [] => rfl
  | a :: l => by rw [List.all_cons, cleanL_eq]; rfl
theorem all_clean2 : l.all (clean 2) = cleanL 2 l := cleanL_eq
theorem cleanL_nil : cleanL d [] = true := (rfl)
theorem cleanL_cons : cleanL d (a :: l) = (clean d a && cleanL d l) := (rfl)
theorem clean_v {x : Value} : clean d (.v x) = true := by cases d <;> rfl
theorem clean_any : clean d .any = true := by cases d <;> rfl
theorem clean_ro {f : Nat → List AV} : clean d (.ro n sz f) = true := by cases d <;> rfl
theorem clean_rop : clean d (.rop l) = true := by cases d <;> rfl
theorem clean_bx : clean d (.bx n k) = false := by cases d <;> rfl
theorem clean_ptr {r f : Nat} : clean d (.ptr r f i sz k) = false := by cases d <;> rfl
theorem clean_own {r f : Nat} : clean d (.own r f n sz) = false := by cases d <;> rfl
theorem clean_vw {r f lo : Nat} : clean d (.vw r f lo n sz) = false := by cases d <;> rfl
theorem clean_agg : clean (d + 1) (.agg l) = cleanL d l := by rw [← cleanL_eq]; rfl
theorem clean_tup : clean (d + 1) (.tup l) = cleanL d l := by rw [← cleanL_eq]; rfl
theorem clean_fn {f : FuncId} : clean (d + 1) (.fn f l) = cleanL d l := by rw [← cleanL_eq]; rfl
theorem clean_iface : clean (d + 1) (.iface q a) = clean d a := (rfl)
def plainL (d : Nat) : List AV → Bool
  | [] => true
  | a :: l => plain d a && plainL d l
theorem plainL_eq : ∀ {l : List AV}, l.all (plain d) = plainL d l
  | [] => rfl
  | a :: l => by rw [List.all_cons, plainL_eq]; rfl
theorem plainL_nil : plainL d [] = true := (rfl)
theorem plainL_cons : plainL d (a :: l) = (plain d a && plainL d l) := (rfl)
theorem plain_v {x : Value} : plain d (.v x) = true := by cases d <;> rfl
theorem plain_agg : plain (d + 1) (.agg l) = plainL d l := by rw [← plainL_eq]; rfl
theorem plain_tup : plain (d + 1) (.tup l) = plainL d l := by rw [← plainL_eq]; rfl
theorem plain_iface : plain (d + 1) (.iface q a) = plain d a := (rfl)

/-! ### Loops -/
def elemB (j : Nat) : List Nat → Bool
  | [] => false
  | k :: r => if j = k then true else elemB j r
theorem elemB_iff {j : Nat} : ∀ {l : List Nat}, elemB j l = true ↔ j ∈ l
  | [] => by simp [elemB]
  | k :: r => by
    simp only [elemB, List.mem_cons]
    by_cases h : j = k
    · simp [h]
    · simp [h, elemB_iff]
def dropB (W : List Nat) : Slots → Slots
  | [] => []
  | (j, a) :: r => bif elemB j W then dropB W r else (j, a) :: dropB W r
theorem dropB_eq {W : List Nat} : ∀ {t : Slots}, dropW W t = dropB W t
  | [] => rfl
  | (j, a) :: r => by
    simp only [dropW, dropB]
    by_cases h : j ∈ W
    · rw [if_pos h, elemB_iff.2 h, dropB_eq]; rfl
    · rw [if_neg h]
      have : elemB j W = false := by cases hb : elemB j W; rfl; exact (h (elemB_iff.1 hb)).elim
      rw [this, dropB_eq]; rfl
def anyS : List Nat → Slots
  | [] => []
  | j :: r => (j, .any) :: anyS r
theorem anyS_eq : ∀ {W : List Nat}, (W.map fun j => (j, AV.any)) = anyS W
  | [] => rfl
  | j :: r => by rw [List.map_cons, anyS_eq]; rfl
theorem anyS_nil : anyS [] = [] := (rfl)
theorem anyS_cons {r : List Nat} : anyS (j :: r) = (j, .any) :: anyS r := (rfl)
theorem dropB_nil {W : List Nat} : dropB W [] = [] := (rfl)
theorem dropB_cons {W : List Nat} : dropB W ((j, a) :: t) = bif elemB j W then dropB W t else (j, a) :: dropB W t := (rfl)
theorem elemB_nil : elemB j [] = false := (rfl)
theorem elemB_cons {r : List Nat} : elemB j (k :: r) = if j = k then true else elemB j r := (rfl)
theorem keptRows_nil {m : Mem} : keptRows [] m = [] := by simp [keptRows]
theorem keptRows_cons {W : List Nat} {x : Fam} : keptRows W ((k, x) :: m) = bif elemB k W then (k, x) :: keptRows W m else keptRows W m := by
  unfold keptRows
  rw [List.filter_cons]
  by_cases h : k ∈ W
  · rw [elemB_iff.2 h]; simp [h]
  · have : elemB k W = false := by cases hb : elemB k W; rfl; exact (h (elemB_iff.1 hb)).elim
    rw [this]; simp [h]
theorem keptRows_end {W : List Nat} : keptRows W [] = [] := (rfl)
/-- Where a round ends. -/
def roundK {X : Type} (P : Program) (G : Ctx) (H : Hots) (K0 : AEx → St → Prop) (st : List Fr) (ok : X → Prop) (μ : X → Nat) (live : X → Slots) (rows : X → Mem) (keep W : List Nat) (nx : Nat) (m : Mem) (x : X) (e : AEx) (s' : St) : Prop := match e with
  | .normal => ∃ y, ok y ∧ μ y < μ x ∧ fitSlots nx nx [] W s'.t (live y) ∧ fitRows nx nx [] s'.m (rows y) ∧ fitKeep m s'.m keep
  | e => retC P G H K0 e st s'
section
variable {X : Type} {ok : X → Prop} {μ : X → Nat} {live : X → Slots} {rows : X → Mem} {keep W : List Nat} {x : X} {m0 : Mem}
theorem roundK_normal : roundK P G H K0 st ok μ live rows keep W nx m0 x .normal ⟨t, m, k⟩ = ∃ y, ok y ∧ μ y < μ x ∧ fitSlots nx nx [] W t (live y) ∧ fitRows nx nx [] m (rows y) ∧ fitKeep m0 m keep := (rfl)
theorem roundK_ret : roundK P G H K0 st ok μ live rows keep W nx m0 x .ret s' = retC P G H K0 .ret st s' := (rfl)
theorem roundK_exit : roundK P G H K0 st ok μ live rows keep W nx m0 x (.exit j) s' = retC P G H K0 (.exit j) st s' := (rfl)
end
/-- A loop. -/
theorem loopC_go {X : Type} (ok : X → Prop) (μ : X → Nat) (live : X → Slots) (rows : X → Mem) (keep W : List Nat) (x0 : X) {c : Code} (hW : writes c = W) (hg : ∀ x, ok x → goodNames nx 0 [] (rows x) keep) (h0 : ok x0)
    (hf : fitSlots nx nx [] W t (live x0) ∧ fitRows nx nx [] m (rows x0) ∧ fitKeep m m keep)
    (hr : ∀ x, ok x → goC P G H (roundK P G H K0 st ok μ live rows keep W nx m x) c [] ⟨live x ++ (dropB W t ++ anyS W), rows x ++ keptRows keep m, nx⟩) : goC P G H K0 (.loop c) st ⟨t, m, nx⟩ := by
  subst hW
  refine ⟨X, ⟨live, rows, keep, 0, ok, μ⟩, ⟨x0, h0, .inl ⟨[], hf.1, hf.2.1, hf.2.2, hg x0 h0⟩⟩, fun x hx => ?_⟩
  have h1 := hr x hx
  unfold goC at h1
  rw [← dropB_eq, ← anyS_eq] at h1
  refine awp_mono (fun e s' h => ?_) h1
  cases e with
  | normal =>
    obtain ⟨y, h1, h2, h3, h4, h5⟩ := h
    exact ⟨y, h1, h2, .inl ⟨[], h3, h4, h5, hg y h1⟩⟩
  | ret => exact h
  | exit j => exact h
theorem fitSlots_nil {N M : Nat} {σ : Names} {W : List Nat} : fitSlots N M σ W t [] = True := (rfl)
theorem fitSlots_cons {N M : Nat} {σ : Names} {W : List Nat} {r : Slots} : fitSlots N M σ W t ((j, a) :: r) = (elemB j W = true ∧ fit1 N M σ a (slot t j) ∧ fitSlots N M σ W t r) := by
  rw [elemB_iff]; rfl
theorem fit1_v {N M : Nat} {σ : Names} {x : Value} : fit1 N M σ (.v x) a = (a = .v x) := by
  simp [fit1, kb]
theorem fit1_any {N M : Nat} {σ : Names} : fit1 N M σ .any a = True := (rfl)
theorem fit1_ro {N M : Nat} {σ : Names} {f : Nat → List AV} : fit1 N M σ (.ro n sz f) a = (a = .ro n sz f) := by
  simp [fit1, kb]
theorem fit1_agg {N M : Nat} {σ : Names} : fit1 N M σ (.agg l) a = (a = .agg l ∧ kb 3 N (.agg l)) := (rfl)
theorem fit1_rop {N M : Nat} {σ : Names} : fit1 N M σ (.rop l) a = (a = .rop l) := by
  simp [fit1, kb]
theorem fit1_bx {N M : Nat} {σ : Names} : fit1 N M σ (.bx i k) a = (a = .bx i k ∧ i < N) := (rfl)
theorem fit1_own {N M : Nat} {r f : Nat} : fit1 N M [] (.own r f n sz) a = (r < M ∧ a = .own r f n sz) := (rfl)
theorem fitRows_nil {N M : Nat} {σ : Names} : fitRows N M σ m [] = True := (rfl)
theorem fitKeep_nil {m' : Mem} : fitKeep m m' [] = True := (rfl)
theorem fitKeep_cons {m' : Mem} {r : List Nat} : fitKeep m m' (k :: r) = (look m' k = look m k ∧ fitKeep m m' r) := (rfl)
theorem av_int {c c' : IntKind} {x y : Int} : (AV.v (.int c x) = .v (.int c' y)) = (c = c' ∧ x = y) := by simp
theorem av_bool {x y : Bool} : (AV.v (.bool x) = .v (.bool y)) = (x = y) := by simp
end
end Go.Ax
end

section
/-
  Equations of first order: slices that are made, cut and appended to; loops that append.
-/
set_option linter.unusedVariables false
set_option linter.unusedSimpArgs false
namespace Go.Ax
section
variable {P : Program} {G : Ctx} {H : Hots} {K0 : AEx → St → Prop} {st : List Fr} {n sz i j k key nx : Nat} {t : Slots} {m : Mem} {d : Option Tmp} {ty : TypeId} {pos : String} {af : Array Edge} {gd : Option (Nat × Bool)} {g : Option Bool} {ρ0 : Operand → AV} {a b : AV} {l cs : List AV} {c c' : IntKind} {x y : Int} {q u e : TypeId}

def makeZ (P : Program) (key : Nat) (g : Option Bool) (e : TypeId) (n q : Int) (z : Option Value) : Option Eff := match z with
  | some z => if z.cells.size = sizeT P e then some ⟨[0 ≤ n, n ≤ q, q ≤ 9223372036854775807, (bytesT P e : Int) * q ≤ 281474976710656], .own key 0 n.toNat (sizeT P e), .new (famN n.toNat (sizeT P e) e (fun _ => z.cells.toList.map .v) g)⟩ else none
  | none => none
theorem makeZ_some {z : Value} : makeZ P key g e x y (some z) = if z.cells.size = sizeT P e then some ⟨[0 ≤ x, x ≤ y, y ≤ 9223372036854775807, (bytesT P e : Int) * y ≤ 281474976710656], .own key 0 x.toNat (sizeT P e), .new (famN x.toNat (sizeT P e) e (fun _ => z.cells.toList.map .v) g)⟩ else none := (rfl)
def makeE (P : Program) (key : Nat) (g : Option Bool) (a b : AV) (e : Option TypeId) : Option Eff := match e with
  | some e => match zeroT P e with
    | some z => match intOfA a with
      | some n => match intOfA b with
        | some q => makeZ P key g e n q (some z)
        | none => none
      | none => none
    | none => none
  | none => none
theorem makeE_int : makeE P key g (.v (.int c x)) (.v (.int c' y)) (some e) = makeZ P key g e x y (zeroT P e) := by
  unfold makeE
  dsimp only [intOfA]
  cases zeroT P e <;> rfl
theorem aStep_make2 {xo yo : Operand} : aStep P G key g ⟨d, .makeSlice q xo yo, ty, pos, af, gd⟩ ρ0 m = makeE P key g (strip (ρ0 xo)) (strip (ρ0 yo)) (sElem P q) := by
  show aMake P key g q (strip (ρ0 xo)) (strip (ρ0 yo)) = _
  unfold aMake makeE makeZ
  cases sElem P q with
  | none => rfl
  | some e =>
    dsimp only
    cases zeroT P e with
    | none => rfl
    | some z =>
      dsimp only
      cases intOfA (strip (ρ0 xo)) with
      | none => rfl
      | some n =>
        dsimp only
        cases intOfA (strip (ρ0 yo)) <;> rfl
theorem cells_agg {z : Array Value} : Value.cells (.agg z) = z := (rfl)
theorem cells_int : Value.cells (.int c x) = #[.int c x] := (rfl)
theorem cells_bool {r : Bool} : Value.cells (.bool r) = #[.bool r] := (rfl)
theorem cells_pointer {r : Option Addr} : Value.cells (.pointer r) = #[.pointer r] := (rfl)
theorem cells_slice {r : Option Addr} : Value.cells (.slice r n k) = #[.slice r n k] := (rfl)
theorem cells_nilIface : Value.cells .nilIface = #[.nilIface] := (rfl)

/-! ### Cutting -/
def optV (t : Slots) : Option Operand → Option AV
  | none => none
  | some x => some (strip (opd t x))
theorem optV_none : optV t none = none := (rfl)
theorem optV_some {x : Operand} : optV t (some x) = some (strip (opd t x)) := (rfl)
theorem cutBound_none : cutBound k none = some (k : Int) := (rfl)
theorem cutBound_int : cutBound k (some (.v (.int c x))) = some x := (rfl)
def cutI (P : Program) (e : TypeId) (x : AV) (n : Nat) (lo0 : Option AV) (lo hi : Option Int) : Option Eff := match lo with
  | some l => match hi with
    | some h => match x with
        | .ro _ sz get => if sizeT P e = sz then some ⟨[0 ≤ l, l ≤ h, h ≤ (n : Int)], .ro (h - l).toNat sz (fun i => get (l.toNat + i)), .none⟩ else none
        | .own r f _ sz => if sizeT P e = sz then some ⟨[0 ≤ l, l ≤ h, h ≤ (n : Int)], cutOwn lo0 r f l h sz, .none⟩ else none
        | .vw r f q _ sz => if sizeT P e = sz then some ⟨[0 ≤ l, l ≤ h, h ≤ (n : Int)], .vw r f (q + l.toNat) (h - l).toNat sz, .none⟩ else none
        | _ => none
    | none => none
  | none => none
theorem cutI_ro {lo0 : Option AV} {f : Nat → List AV} : cutI P e (.ro k sz f) n lo0 (some x) (some y) = if sizeT P e = sz then some ⟨[0 ≤ x, x ≤ y, y ≤ (n : Int)], .ro (y - x).toNat sz (fun i => f (x.toNat + i)), .none⟩ else none := (rfl)
theorem cutI_own {lo0 : Option AV} {r f : Nat} : cutI P e (.own r f k sz) n lo0 (some x) (some y) = if sizeT P e = sz then some ⟨[0 ≤ x, x ≤ y, y ≤ (n : Int)], cutOwn lo0 r f x y sz, .none⟩ else none := (rfl)
theorem cutOwn_none {r f : Nat} {x y : Int} : cutOwn none r f x y sz = .own r f (y - x).toNat sz := (rfl)
theorem cutOwn_some {r f : Nat} {x y : Int} {a : AV} : cutOwn (some a) r f x y sz = .vw r f x.toNat (y - x).toNat sz := (rfl)
theorem cutI_vw {lo0 : Option AV} {r f lo : Nat} : cutI P e (.vw r f lo k sz) n lo0 (some x) (some y) = if sizeT P e = sz then some ⟨[0 ≤ x, x ≤ y, y ≤ (n : Int)], .vw r f (lo + x.toNat) (y - x).toNat sz, .none⟩ else none := (rfl)
def cutE (P : Program) (x : AV) (lo hi : Option AV) (e : Option TypeId) : Option Eff := match e with
  | some e => if (P.info? e).isSome = true then (match lenA x with
    | some n => cutI P e x n lo (cutBound 0 lo) (cutBound n hi)
    | none => none) else none
  | none => none
theorem cutE_ro {f : Nat → List AV} {lo hi : Option AV} (h : (P.info? e).isSome = true) : cutE P (.ro n sz f) lo hi (some e) = cutI P e (.ro n sz f) n lo (cutBound 0 lo) (cutBound n hi) := if_pos h
theorem cutE_own {r f : Nat} {lo hi : Option AV} (h : (P.info? e).isSome = true) : cutE P (.own r f n sz) lo hi (some e) = cutI P e (.own r f n sz) n lo (cutBound 0 lo) (cutBound n hi) := if_pos h
theorem cutE_vw {r f lo' : Nat} {lo hi : Option AV} (h : (P.info? e).isSome = true) : cutE P (.vw r f lo' n sz) lo hi (some e) = cutI P e (.vw r f lo' n sz) n lo (cutBound 0 lo) (cutBound n hi) := if_pos h
theorem aStep_cut2 {xo : Operand} {lo hi : Option Operand} : aStep P G key g ⟨d, .slice q xo lo hi none, ty, pos, af, gd⟩ (opd t) m = cutE P (strip (opd t xo)) (optV t lo) (optV t hi) (sElem P q) := by
  show aCut P q (strip (opd t xo)) (lo.map fun y => strip (opd t y)) (hi.map fun y => strip (opd t y)) = _
  have e1 : (lo.map fun y => strip (opd t y)) = optV t lo := by cases lo <;> rfl
  have e2 : (hi.map fun y => strip (opd t y)) = optV t hi := by cases hi <;> rfl
  rw [e1, e2]
  unfold aCut cutE cutI
  cases sElem P q with
  | none => rfl
  | some e =>
    dsimp only
    split
    · cases lenA (strip (opd t xo)) with
      | none => rfl
      | some n =>
        dsimp only
        cases cutBound 0 (optV t lo) with
        | none => rfl
        | some l =>
          dsimp only
          cases cutBound n (optV t hi) <;> rfl
    · rfl

/-! ### Appending -/
theorem srcOf_ro {f : Nat → List AV} : srcOf (.ro n sz f) m = some ([], n, sz, f) := (rfl)
def srcF (f k sz lo : Nat) (x : Option Fam) : Option (List Prop × Nat × Nat × (Nat → List AV)) := match x with
  | some fam => some ((lo + k ≤ (fam f).n) :: (sz = (fam f).sz) :: gOb (fam f).g [], k, sz, fun i => (fam f).get (lo + i))
  | none => none
def srcO (f k sz : Nat) (x : Option Fam) : Option (List Prop × Nat × Nat × (Nat → List AV)) := match x with
  | some fam => some ((k ≤ (fam f).n) :: (sz = (fam f).sz) :: gOb (fam f).g [], k, sz, (fam f).get)
  | none => none
theorem srcOf_own {r f : Nat} : srcOf (.own r f n sz) m = srcO f n sz (look m r) := by
  unfold srcOf srcO
  dsimp only
  cases look m r <;> rfl
theorem srcOf_vw {r f lo : Nat} : srcOf (.vw r f lo n sz) m = srcF f n sz lo (look m r) := by
  unfold srcOf srcF
  dsimp only
  cases look m r <;> rfl
theorem srcO_N {n' sz' : Nat} {f : Nat → List AV} : srcO 0 k sz (some (famN n' sz' e f g)) = some ((k ≤ n') :: (sz = sz') :: gOb g [], k, sz, f) := (rfl)
theorem srcF_N {n' sz' lo : Nat} {f : Nat → List AV} : srcF 0 k sz lo (some (famN n' sz' e f g)) = some ((lo + k ≤ n') :: (sz = sz') :: gOb g [], k, sz, fun i => f (lo + i)) := (rfl)
/-- 'allCells' of each element. -/
def okCells (k : Nat) (f : Nat → List AV) : Prop := ∀ i, i < k → allCells (f i) = true
def appF (P : Program) (key : Nat) (e : TypeId) (r n : Nat) (ob : List Prop) (k sz : Nat) (get : Nat → List AV) (x : Option Fam) : Option Eff := match x with
  | some fam => some ⟨ob ++ [n ≤ (fam 0).n, sz = (fam 0).sz, (fam 0).ty = e, (fam 0).g = none, okCells k get, (n + k) * bytesT P e ≤ 140737488355328, n + k ≤ 9223372036854775807], .own key 0 (n + k) sz, .swap r (famN (n + k) sz e (fun i => if i < n then (fam 0).get i else get (i - n)) none)⟩
  | none => none
theorem appF_N {r n' sz' : Nat} {f f' : Nat → List AV} {ob : List Prop} {e' : TypeId} : appF P key e r n ob k sz f (some (famN n' sz' e' f' g)) = some ⟨ob ++ [n ≤ n', sz = sz', e' = e, g = none, okCells k f, (n + k) * bytesT P e ≤ 140737488355328, n + k ≤ 9223372036854775807], .own key 0 (n + k) sz, .swap r (famN (n + k) sz e (fun i => if i < n then f' i else f (i - n)) none)⟩ := (rfl)
def appS (P : Program) (key : Nat) (e : TypeId) (s : AV) (m : Mem) (x : Option (List Prop × Nat × Nat × (Nat → List AV))) : Option Eff := match x with
  | some (ob, k, sz, getx) => if sz = sizeT P e then (match s with
        | .v (.slice none 0 0) => some ⟨ob ++ [okCells k getx, k * bytesT P e ≤ 140737488355328, k ≤ 9223372036854775807], .own key 0 k sz, .new (famN k sz e getx none)⟩
        | .own r f n sz' => if f = 0 ∧ sz' = sz then appF P key e r n ob k sz getx (look m r) else none
        | _ => none) else none
  | none => none
theorem appS_nil {ob : List Prop} {f : Nat → List AV} (h : sz = sizeT P e) : appS P key e (.v (.slice none 0 0)) m (some (ob, k, sz, f)) = some ⟨ob ++ [okCells k f, k * bytesT P e ≤ 140737488355328, k ≤ 9223372036854775807], .own key 0 k sz, .new (famN k sz e f none)⟩ := if_pos h
theorem appS_own {ob : List Prop} {f : Nat → List AV} {r : Nat} (h : sz = sizeT P e) : appS P key e (.own r 0 n sz) m (some (ob, k, sz, f)) = appF P key e r n ob k sz f (look m r) := by
  unfold appS
  dsimp only
  rw [if_pos h]
  simp
def appE (P : Program) (key : Nat) (s x : AV) (m : Mem) (e : Option TypeId) : Option Eff := match e with
  | some e => match zeroT P e with
    | some z => if z.cells.size = sizeT P e ∧ 0 < sizeT P e ∧ e < 1000000 then appS P key e s m (srcOf x m) else none
    | none => none
  | none => none
def appZ (P : Program) (key : Nat) (e : TypeId) (s x : AV) (m : Mem) (z : Option Value) : Option Eff := match z with
  | some z => if z.cells.size = sizeT P e ∧ 0 < sizeT P e ∧ e < 1000000 then appS P key e s m (srcOf x m) else none
  | none => none
theorem appE_some : appE P key a b m (some e) = appZ P key e a b m (zeroT P e) := (rfl)
theorem appZ_some {z : Value} : appZ P key e a b m (some z) = if z.cells.size = sizeT P e ∧ 0 < sizeT P e ∧ e < 1000000 then appS P key e a m (srcOf b m) else none := (rfl)
theorem aStep_append2 {xo yo : Operand} : aStep P G key none ⟨d, .call ⟨.builtin .append, #[xo, yo], #[q, q]⟩, ty, pos, af, gd⟩ ρ0 m = appE P key (strip (ρ0 xo)) (strip (ρ0 yo)) m (sElem P q) := by
  show (if q = q then aAppend P key q (strip (ρ0 xo)) (strip (ρ0 yo)) m else none) = _
  rw [if_pos rfl]
  unfold aAppend appE appS appF okCells
  cases sElem P q with
  | none => rfl
  | some e =>
    dsimp only
    cases zeroT P e with
    | none => rfl
    | some z =>
      dsimp only
      split
      · cases srcOf (strip (ρ0 yo)) m with
        | none => rfl
        | some s => rfl
      · rfl
/-- Values that are appended one at a time. -/
theorem okCells_1 {f : Nat → List AV} : okCells 1 f = (allCells (f 0) = true) := by
  unfold okCells
  apply propext
  exact ⟨fun h => h 0 (by omega), fun h i hi => by
    have : i = 0 := by omega
    subst this; exact h⟩
theorem okCells_all {f : Nat → List AV} (h : ∀ i, allCells (f i) = true) : okCells k f := fun i _ => h i

/-! ### Loops that append -/
/-- Where a round ends, rows having names. -/
def roundN {X : Type} (P : Program) (G : Ctx) (H : Hots) (K0 : AEx → St → Prop) (st : List Fr) (ok : X → Prop) (μ : X → Nat) (live : X → Slots) (rows : X → Mem) (keep W : List Nat) (names nx : Nat) (m : Mem) (x : X) (e : AEx) (s' : St) : Prop := match e with
  | .normal => ∃ y, ok y ∧ μ y < μ x ∧ ∃ σ : Names, fitSlots nx (nx + names) σ W s'.t (live y) ∧ fitRows nx (nx + names) σ s'.m (rows y) ∧ fitKeep m s'.m keep ∧ goodNames nx names σ (rows y) keep
  | e => retC P G H K0 e st s'
section
variable {X : Type} {ok : X → Prop} {μ : X → Nat} {live : X → Slots} {rows : X → Mem} {keep W : List Nat} {x : X} {m0 : Mem} {names : Nat} {s' : St}
theorem roundN_normal : roundN P G H K0 st ok μ live rows keep W names nx m0 x .normal ⟨t, m, k⟩ = ∃ y, ok y ∧ μ y < μ x ∧ ∃ σ : Names, fitSlots nx (nx + names) σ W t (live y) ∧ fitRows nx (nx + names) σ m (rows y) ∧ fitKeep m0 m keep ∧ goodNames nx names σ (rows y) keep := (rfl)
theorem roundN_ret : roundN P G H K0 st ok μ live rows keep W names nx m0 x .ret s' = retC P G H K0 .ret st s' := (rfl)
theorem roundN_exit : roundN P G H K0 st ok μ live rows keep W names nx m0 x (.exit j) s' = retC P G H K0 (.exit j) st s' := (rfl)
end
theorem loopN_go {X : Type} (ok : X → Prop) (μ : X → Nat) (live : X → Slots) (rows : X → Mem) (keep W : List Nat) (names : Nat) (x0 : X) {c : Code} (hW : writes c = W) (h0 : ok x0)
    (hf : ∃ σ : Names, fitSlots nx (nx + names) σ W t (live x0) ∧ fitRows nx (nx + names) σ m (rows x0) ∧ fitKeep m m keep ∧ goodNames nx names σ (rows x0) keep)
    (hr : ∀ x, ok x → goC P G H (roundN P G H K0 st ok μ live rows keep W names nx m x) c [] ⟨live x ++ (dropB W t ++ anyS W), rows x ++ keptRows keep m, nx + names⟩) : goC P G H K0 (.loop c) st ⟨t, m, nx⟩ := by
  subst hW
  refine ⟨X, ⟨live, rows, keep, names, ok, μ⟩, ⟨x0, h0, .inl hf⟩, fun x hx => ?_⟩
  have h1 := hr x hx
  unfold goC at h1
  rw [← dropB_eq, ← anyS_eq] at h1
  refine awp_mono (fun e s' h => ?_) h1
  cases e with
  | normal =>
    obtain ⟨y, h1, h2, σ, h3, h4, h5, h6⟩ := h
    exact ⟨y, h1, h2, .inl ⟨σ, h3, h4, h5, h6⟩⟩
  | ret => exact h
  | exit j => exact h

/-- As 'roundN', under aliases. -/
def roundA (P : Program) (G : Ctx) (H : Hots) (K0 : AEx → St → Prop) (st : List Fr) {X : Type} (ok : X → Prop) (μ : X → Nat) (live : X → Slots) (rows : X → Mem) (keep W : List Nat) (names nx : Nat) (m : Mem) (x : X) (e : AEx) (s' : St) : Prop := match e with
  | .normal => ∃ y, ok y ∧ μ y < μ x ∧ ∃ θ : Alias, fitSlotsA nx (nx + names) θ W s'.t (live y) ∧ fitRowsA nx (nx + names) θ s'.m (rows y) ∧ fitKeep m s'.m keep ∧ goodA nx names θ (rows y) keep
  | .ret => kOf P G H K0 st .ret s'
  | .exit j => kOf P G H K0 st (.exit j) s'
theorem roundA_normal {X : Type} {ok : X → Prop} {μ : X → Nat} {live : X → Slots} {rows : X → Mem} {keep W : List Nat} {names : Nat} {m0 : Mem} {x : X} {k : Nat} : roundA P G H K0 st ok μ live rows keep W names nx m0 x .normal ⟨t, m, k⟩ = ∃ y, ok y ∧ μ y < μ x ∧ ∃ θ : Alias, fitSlotsA nx (nx + names) θ W t (live y) ∧ fitRowsA nx (nx + names) θ m (rows y) ∧ fitKeep m0 m keep ∧ goodA nx names θ (rows y) keep := (rfl)
theorem roundA_ret {X : Type} {ok : X → Prop} {μ : X → Nat} {live : X → Slots} {rows : X → Mem} {keep W : List Nat} {names : Nat} {m0 : Mem} {x : X} {s' : St} : roundA P G H K0 st ok μ live rows keep W names nx m0 x .ret s' = retC P G H K0 .ret st s' := (rfl)
theorem roundA_exit {X : Type} {ok : X → Prop} {μ : X → Nat} {live : X → Slots} {rows : X → Mem} {keep W : List Nat} {names : Nat} {m0 : Mem} {x : X} {s' : St} {j : Nat} : roundA P G H K0 st ok μ live rows keep W names nx m0 x (.exit j) s' = retC P G H K0 (.exit j) st s' := (rfl)
theorem loopA_go {X : Type} (ok : X → Prop) (μ : X → Nat) (live : X → Slots) (rows : X → Mem) (keep W : List Nat) (names : Nat) (x0 : X) {c : Code} (hW : writes c = W) (h0 : ok x0)
    (hf : ∃ θ : Alias, fitSlotsA nx (nx + names) θ W t (live x0) ∧ fitRowsA nx (nx + names) θ m (rows x0) ∧ fitKeep m m keep ∧ goodA nx names θ (rows x0) keep)
    (hr : ∀ x, ok x → goC P G H (roundA P G H K0 st ok μ live rows keep W names nx m x) c [] ⟨live x ++ (dropB W t ++ anyS W), rows x ++ keptRows keep m, nx + names⟩) : goC P G H K0 (.loop c) st ⟨t, m, nx⟩ := by
  subst hW
  refine ⟨X, ⟨live, rows, keep, names, ok, μ⟩, ⟨x0, h0, .inr hf⟩, fun x hx => ?_⟩
  have h1 := hr x hx
  unfold goC at h1
  rw [← dropB_eq, ← anyS_eq] at h1
  refine awp_mono (fun e s' h => ?_) h1
  cases e with
  | normal =>
    obtain ⟨y, h1, h2, h3⟩ := h
    exact ⟨y, h1, h2, .inr h3⟩
  | ret => exact h
  | exit j => exact h
/-! ### Ranges over functions -/
/-- Behind the assignments of a round. -/
def asgK (P : Program) (G : Ctx) (H : Hots) (c : Code) (K1 : AEx → St → Prop) (e : AEx) (s : St) : Prop := match e with
  | .normal => goC P G H K1 c [] s
  | _ => False
section
variable {K1 : AEx → St → Prop} {c : Code}
theorem asgK_normal {s : St} : asgK P G H c K1 .normal s = goC P G H K1 c [] s := (rfl)
end
/-- Where a round ends. -/
def roundR {X : Type} (P : Program) (G : Ctx) (H : Hots) (K0 : AEx → St → Prop) (st : List Fr) (ok : X → Prop) (cnt : X → Nat) (rows : X → Mem) (keep : List Nat) (names nx : Nat) (tb : Slots) (m : Mem) (x : X) (e : AEx) (s' : St) : Prop := match e with
  | .normal => ∃ y, ok y ∧ cnt y = cnt x + 1 ∧ ∃ σ : Names, fitRows nx (nx + names) σ s'.m (rows y) ∧ fitKeep m s'.m keep ∧ goodNames nx names σ (rows y) keep
  | e => retC P G H K0 e st { s' with t := tb }
section
variable {X : Type} {ok : X → Prop} {cnt : X → Nat} {rows : X → Mem} {keep W : List Nat} {x : X} {m0 : Mem} {names : Nat} {tb : Slots}
theorem roundR_normal : roundR P G H K0 st ok cnt rows keep names nx tb m0 x .normal ⟨t, m, k⟩ = ∃ y, ok y ∧ cnt y = cnt x + 1 ∧ ∃ σ : Names, fitRows nx (nx + names) σ m (rows y) ∧ fitKeep m0 m keep ∧ goodNames nx names σ (rows y) keep := (rfl)
theorem roundR_ret : roundR P G H K0 st ok cnt rows keep names nx tb m0 x .ret ⟨t, m, k⟩ = retC P G H K0 .ret st ⟨tb, m, k⟩ := (rfl)
theorem roundR_exit : roundR P G H K0 st ok cnt rows keep names nx tb m0 x (.exit j) ⟨t, m, k⟩ = retC P G H K0 (.exit j) st ⟨tb, m, k⟩ := (rfl)
end
theorem slotsOf_nil {l : List AV} : slotsOf [] l t = t := by cases l <;> rfl
theorem slotsOf_cons {ps : List Nat} : slotsOf (k :: ps) (a :: l) t = slotsOf ps l ((k, a) :: t) := (rfl)
end
end Go.Ax
end

section
/-
  Equations of first order: regions that draw their order.
-/
set_option linter.unusedVariables false
set_option linter.unusedSimpArgs false
namespace Go.Ax
section
variable {t : Slots} {m : Mem} {base i j k q : Nat} {h : Hot} {o : Oper} {d : Option Tmp} {op : Op} {ty : TypeId} {pos : String} {gd : Option (Nat × Bool)} {l : List Edge} {root : List (Nat × Root)} {hide : List (Nat × List Root)} {r : Root} {rs : List Root} {x : Fam}

def bindsG : Ground → Bool
  | .textOnly _ => false
  | .gcOnly _ => false
  | _ => true
theorem bindsG_data : bindsG .data = true := (rfl)
theorem bindsG_chain : bindsG .chain = true := (rfl)
theorem bindsG_guard : bindsG .guard = true := (rfl)
theorem bindsG_phase : bindsG .phase = true := (rfl)
theorem bindsG_textOnly {y : Departure} : bindsG (.textOnly y) = false := (rfl)
theorem bindsG_gcOnly {y : Departure} : bindsG (.gcOnly y) = false := (rfl)
def afterB (base k : Nat) : List Edge → Bool
  | [] => false
  | e :: r => if base + e.on = k then (if bindsG e.ground = true then true else afterB base k r) else afterB base k r
theorem afterB_nil : afterB base k [] = false := (rfl)
theorem afterB_cons {on : Nat} {g : Ground} : afterB base k (⟨on, g⟩ :: l) = if base + on = k then (if bindsG g = true then true else afterB base k l) else afterB base k l := (rfl)
theorem afterB_eq : ∀ {l : List Edge}, (l.any fun x => decide (base + x.on = k) && Region.binds .any x) = afterB base k l
  | [] => rfl
  | e :: l => by
    have hb : Region.binds .any e = bindsG e.ground := by
      obtain ⟨on, g⟩ := e
      cases g <;> rfl
    rw [List.any_cons, afterB_eq, hb]
    simp only [afterB]
    by_cases h1 : base + e.on = k
    · by_cases h2 : bindsG e.ground = true <;> simp [h1, h2]
    · simp [h1]
def keyA : AV → Option Nat
  | .bx r _ => some r
  | .ptr r _ _ _ _ => some r
  | .own r _ _ _ => some r
  | _ => none
theorem keyA_bx {n k : Nat} : keyA (.bx n k) = some n := (rfl)
theorem keyA_ptr {r f i sz k : Nat} : keyA (.ptr r f i sz k) = some r := (rfl)
theorem keyA_own {r f n sz : Nat} : keyA (.own r f n sz) = some r := (rfl)
theorem keyOf_made {a : Nat} : keyOf base t (.made a) = some (base + a) := (rfl)
theorem keyOf_slot : keyOf base t (.slot q) = keyA (slot t q) := by
  unfold keyOf keyA
  dsimp only
  cases slot t q <;> rfl
def eqK (k : Nat) : Option Nat → Bool
  | some q => if q = k then true else false
  | none => false
theorem eqK_some : eqK k (some q) = if q = k then true else false := (rfl)
theorem hidden_nil : hidden base t k [] = false := (rfl)
theorem hidden_cons : hidden base t k (r :: rs) = if eqK k (keyOf base t r) = true then true else hidden base t k rs := by
  show ((match keyOf base t r with
    | some q => decide (q = k)
    | none => false) || hidden base t k rs) = _
  cases keyOf base t r with
  | none => rfl
  | some q => by_cases e : q = k <;> simp [eqK, e]
theorem hideOf_nil : hideOf [] i = [] := (rfl)
theorem hideOf_cons : hideOf ((k, rs) :: hide) i = if k = i then rs else hideOf hide i := (rfl)
theorem rootOf_nil : rootOf [] i = none := (rfl)
theorem rootOf_cons : rootOf ((k, r) :: root) i = if k = i then some r else rootOf root i := (rfl)
/-- The rows that an operation may look at. -/
def restrB (hid : List Root) (base : Nat) (af : List Edge) (t : Slots) : Mem → Mem
  | [] => []
  | (k, x) :: m => if k < base then (if hidden base t k hid = true then restrB hid base af t m else (k, x) :: restrB hid base af t m) else
      if afterB base k af = true then (if hidden base t k hid = true then restrB hid base af t m else (k, x) :: restrB hid base af t m) else restrB hid base af t m
theorem restrB_nil {af : List Edge} : restrB rs base af t [] = [] := (rfl)
theorem restrB_cons {af : List Edge} : restrB rs base af t ((k, x) :: m) = if k < base then (if hidden base t k rs = true then restrB rs base af t m else (k, x) :: restrB rs base af t m) else
      if afterB base k af = true then (if hidden base t k rs = true then restrB rs base af t m else (k, x) :: restrB rs base af t m) else restrB rs base af t m := (rfl)
theorem restrB_eq {af : List Edge} : ∀ {m : Mem}, (m.filter fun e => (decide (e.1 < base) || af.any fun x => decide (base + x.on = e.1) && Region.binds .any x) && !hidden base t e.1 rs) = restrB rs base af t m
  | [] => rfl
  | (k, x) :: m => by
    rw [List.filter_cons, restrB_eq]
    simp only [restrB, afterB_eq]
    by_cases h1 : k < base
    · cases h2 : hidden base t k rs <;> simp [h1, h2]
    · cases h3 : afterB base k af <;> cases h2 : hidden base t k rs <;> simp [h1, h2, h3]
theorem memFor_some {af : List Edge} : memFor (some ⟨root, hide⟩) base i ⟨d, op, ty, pos, af.toArray, gd⟩ t m = restrB (hideOf hide i) base af t m := by
  rw [← restrB_eq]
  simp [memFor, restr]
def callR (base : Nat) (t : Slots) (l : List (Nat × Fam)) : Option Root → Bool
  | some .call => true
  | some (.calls q) => setsOK base t q l
  | _ => false
theorem rootOK_snone : rootOK (some h) base i t .none = true := (rfl)
theorem rootOK_smany {l : List (Nat × Fam)} {nw : Option Fam} {root : List (Nat × Root)} {hide : List (Nat × List Root)} : rootOK (some ⟨root, hide⟩) base i t (.many l nw) = callR base t l (rootOf root i) := by
  show manyOK base t l (rootOf root i) = _
  unfold manyOK callR
  rfl
theorem callR_call {l : List (Nat × Fam)} : callR base t l (some .call) = true := (rfl)
theorem callR_calls {l : List (Nat × Fam)} : callR base t l (some (.calls q)) = setsOK base t q l := (rfl)
theorem setsOK_nil : setsOK base t q [] = true := (rfl)
theorem setsOK_cons {x : Fam} {l : List (Nat × Fam)} : setsOK base t q ((k, x) :: l) = if k < base then (if hidden base t k [.slot q] = true then setsOK base t q l else false) else false := by
  show (decide (k < base) && hidden base t k [.slot q] && setsOK base t q l) = _
  by_cases h : k < base
  · rw [if_pos h, decide_eq_true h]
    cases hidden base t k [.slot q] <;> rfl
  · rw [if_neg h, decide_eq_false h]; rfl
theorem rootOK_snew : rootOK (some h) base i t (.new x) = true := (rfl)
def rootX (base : Nat) (t : Slots) (k : Nat) : Option Root → Bool
  | some r => eqK k (keyOf base t r)
  | none => true
theorem rootX_some : rootX base t k (some r) = eqK k (keyOf base t r) := (rfl)
theorem rootX_none : rootX base t k none = true := (rfl)
theorem rootOK_sset : rootOK (some ⟨root, hide⟩) base i t (.set k x) = rootX base t k (rootOf root i) := by
  unfold rootOK rootX
  dsimp only
  cases rootOf root i with
  | none => rfl
  | some r =>
    dsimp only
    cases keyOf base t r with
    | none => rfl
    | some q => by_cases e : q = k <;> simp [eqK, e]
theorem rootOK_sswap : rootOK (some ⟨root, hide⟩) base i t (.swap k x) = rootX base t k (rootOf root i) := by
  unfold rootOK rootX
  dsimp only
  cases rootOf root i with
  | none => rfl
  | some r =>
    dsimp only
    cases keyOf base t r with
    | none => rfl
    | some q => by_cases e : q = k <;> simp [eqK, e]
theorem hotAt_nil : hotAt [] i = ⟨[], []⟩ := (rfl)
theorem hotAt_cons {H : Hots} : hotAt ((k, h) :: H) i = if k = i then h else hotAt H i := (rfl)
theorem zeros_zero {z : Value} : zeros z 0 = [] := (rfl)
theorem zeros_succ {z : Value} {n : Nat} : zeros z (n + 1) = z.cells.toList.map AV.v ++ zeros z n := by
  simp [zeros, List.replicate_succ]
theorem callD_V {f : Con} {l : List AV} : callD (some f) l m = callX (cleanL 3 l) f l m := by
  rw [← cleanL_eq]; rfl
theorem callX_V {f : Con} {l : List AV} : callX false f l m = callY (pgsL 3 m l) (f (purUL 3 m l)) := by
  rw [← purUL_eq, ← pgsL_eq]; rfl

/-! ### Rows at a loop's head -/
variable {N M : Nat} {σ : Names} {rows : Mem} {cs cs' : List AV} {ty' : TypeId} {sz sz' n n' : Nat} {g : Option Bool} {a b : AV} {get get' : Nat → List AV}
def fitF (N M : Nat) (σ : Names) (x : Fam) : Option Fam → Prop
  | some y => ∀ f, fitRow N M σ (x f) (y f)
  | none => False
theorem fitRows_none : fitRows N M [] m ((q, x) :: rows) = (fitF N M [] x (look m q) ∧ fitRows N M [] m rows) := by
  show ((∃ y, look m q = some y ∧ ∀ f, fitRow N M [] (x f) (y f)) ∧ _) = _
  unfold fitF
  cases look m q <;> simp
theorem fitRows_some {k : Nat} : fitRows N M [(q, some k)] m [(q, x)] = fitF N M [(q, some k)] x (look m k) := by
  simp only [fitRows, asg, if_true, and_true]
  unfold fitF
  cases look m k <;> simp
theorem fitRows_nilS : fitRows N M [(q, none)] m [(q, famN n sz ty get none)] = (n = 0) := by
  simp only [fitRows, asg, if_true, and_true]
  apply propext
  constructor
  · intro h; have := (h 0).1; simpa [famN] using this
  · intro h f
    subst h
    unfold famN
    split <;> exact ⟨rfl, rfl⟩
theorem fitF_1 : fitF N M σ (fam1 ty sz cs none) (some (fam1 ty' sz' cs' g)) = (sz = sz' ∧ ty = ty' ∧ g = none ∧ fitL N M σ cs cs') := by
  apply propext
  constructor
  · intro h
    have h0 := h 0
    exact ⟨h0.2.1, h0.2.2.1, h0.2.2.2.1, h0.2.2.2.2.2 0 (by show 0 < 1; omega)⟩
  · rintro ⟨rfl, rfl, rfl, h⟩ f
    unfold fam1
    by_cases e : f = 0
    · rw [if_pos e, if_pos e]; exact ⟨rfl, rfl, rfl, rfl, rfl, fun _ _ => h⟩
    · rw [if_neg e, if_neg e]; exact ⟨rfl, rfl, rfl, rfl, rfl, fun i hi => by
        have hi : i < 0 := hi
        omega⟩
theorem fitF_N : fitF N M σ (famN n sz ty get none) (some (famN n' sz' ty' get' g)) = (n = n' ∧ sz = sz' ∧ ty = ty' ∧ g = none ∧ ∀ i, i < n → fitL N M σ (get i) (get' i)) := by
  apply propext
  constructor
  · intro h
    have h0 := h 0
    exact ⟨h0.1, h0.2.1, h0.2.2.1, h0.2.2.2.1, h0.2.2.2.2.2⟩
  · rintro ⟨rfl, rfl, rfl, rfl, h⟩ f
    unfold famN
    by_cases e : f = 0
    · rw [if_pos e, if_pos e]; exact ⟨rfl, rfl, rfl, rfl, rfl, h⟩
    · rw [if_neg e, if_neg e]; exact ⟨rfl, rfl, rfl, rfl, rfl, fun i hi => by
        have hi : i < 0 := hi
        omega⟩
theorem fitL_nil : fitL N M σ [] [] = True := (rfl)
theorem fitL_cons : fitL N M σ (a :: cs) (b :: cs') = (fit1 N M σ a b ∧ fitL N M σ cs cs') := (rfl)
/-- A row that has a name. -/
theorem fit1_named {k f : Nat} : fit1 N M [(q, some k)] (.own q f n sz) a = (q < M ∧ a = .own k f n sz) := by
  simp only [fit1, asg, if_true]
theorem fit1_nilS {f : Nat} : fit1 N M [(q, none)] (.own q f n sz) a = (q < M ∧ n = 0 ∧ a = .v (.slice none 0 0)) := by
  simp only [fit1, asg, if_true]
end
end Go.Ax
end

section
/-
  Functions that write rows: what the evaluator says of a body, run on a few rows, is so of its calls among many.
-/
set_option linter.unusedSimpArgs false
set_option linter.unusedVariables false
namespace Go.Ax
open Go.RowKit

/-- Rows of our own under other keys. -/
def renA (θ : Nat → Nat → Nat × Nat) : Nat → AV → AV
  | _, .v x => .v x
  | _, .any => .any
  | _, .ro n sz get => .ro n sz get
  | _, .rop cs => .rop cs
  | _, .bx r k => .bx (θ r 0).1 k
  | _, .ptr r f i sz k => .ptr (θ r f).1 (θ r f).2 i sz k
  | _, .own r f n sz => .own (θ r f).1 (θ r f).2 n sz
  | _, .vw r f lo n sz => .vw (θ r f).1 (θ r f).2 lo n sz
  | _, .mp r f => .mp (θ r f).1 (θ r f).2
  | _, .rm n L => .rm n L
  | d + 1, .agg cs => .agg (cs.map (renA θ d))
  | d + 1, .tup cs => .tup (cs.map (renA θ d))
  | d + 1, .fn f cs => .fn f (cs.map (renA θ d))
  | d + 1, .iface t x => .iface t (renA θ d x)
  | d + 1, .cond b x => .cond b (renA θ d x)
  | 0, _ => .any

/-- All rows in it are such: G; those that are pointed at ars rows of one element: B. -/
def kg (G : Nat → Nat → Prop) (B : Nat → Prop) : Nat → AV → Prop
  | _, .v _ => True
  | _, .any => True
  | _, .ro _ _ _ => True
  | _, .rop _ => True
  | _, .bx r _ => B r
  | _, .ptr r f _ _ _ => G r f
  | _, .own r f _ _ => G r f
  | _, .vw r f _ _ _ => G r f
  | _, .mp r f => G r f
  | _, .rm _ _ => True
  | d + 1, .agg cs => ∀ c ∈ cs, kg G B d c
  | d + 1, .tup cs => ∀ c ∈ cs, kg G B d c
  | d + 1, .fn _ cs => ∀ c ∈ cs, kg G B d c
  | d + 1, .iface _ x => kg G B d x
  | d + 1, .cond _ x => kg G B d x
  | _, _ => False

/-- The content of a row, under other keys. -/
def rowRen (θ : Nat → Nat → Nat × Nat) (G : Nat → Nat → Prop) (B : Nat → Prop) (x0 x : Row) : Prop :=
  x.n = x0.n ∧ x.sz = x0.sz ∧ x.ty = x0.ty ∧ x.g = x0.g ∧ ∀ j, j < x0.n → x.get j = (x0.get j).map (renA θ 3) ∧ ∀ c ∈ x0.get j, kg G B 3 c

/-- The caller's keys. -/
def thE (ks : List Nat) (r f : Nat) : Nat × Nat := (ks.getD r 0, f)
/-- The keys behind a call: those of the caller, and new ones, all in one family: th says where, and the new family's rows come from where σ says. -/
def thL (ks : List Nat) (key : Nat) (th : Nat → Nat → Nat) (r f : Nat) : Nat × Nat := if r < ks.length then (ks.getD r 0, f) else (key, th r f)
def lowG (N : Nat) (r _ : Nat) : Prop := r < N
def lowB (N : Nat) (r : Nat) : Prop := r < N
def newG (N : Nat) (σ : Nat → Option (Nat × Nat)) (th : Nat → Nat → Nat) (r f : Nat) : Prop := r < N ∨ σ (th r f) = some (r, f)
def newB (N : Nat) (σ : Nat → Option (Nat × Nat)) (r : Nat) : Prop := r < N ∨ σ 0 = some (r, 0)

/-- What the callee is run on: some of the caller's rows, under keys from 0 on. -/
structure Entry (ks : List Nat) (m m0 : Mem) (ars as0 : List AV) : Prop where
  nodup : ks.Nodup
  args : ars = as0.map (renA (thE ks) 3)
  argk : ∀ a ∈ as0, kg (lowG ks.length) (lowB ks.length) 3 a
  rows : ∀ i, i < ks.length → ∃ x0 x, look m0 i = some x0 ∧ look m (ks.getD i 0) = some x ∧ ∀ f, (x f).g = none ∧ rowRen (thE ks) (lowG ks.length) (lowB ks.length) (x0 f) (x f)
  only : ∀ r x, look m0 r = some x → r < ks.length

/-- What it leaves: the rows' contents; new rows; a result. -/
structure Leave (key : Nat) (ks : List Nat) (σ : Nat → Option (Nat × Nat)) (th : Nat → Nat → Nat) (m1 : Mem) (a : AV) (ys : List Fam) (nw : Option Fam) (val : AV) : Prop where
  new1 : ∀ f r g, σ f = some (r, g) → ks.length ≤ r ∧ th r g = f
  val : val = renA (thL ks key th) 3 a
  valk : kg (newG ks.length σ th) (newB ks.length σ) 3 a
  len : ys.length = ks.length
  rows : ∀ i, i < ks.length → ys[i]? = some dead ∨ ∃ y0 y, look m1 i = some y0 ∧ ys[i]? = some y ∧ ∀ f, rowRen (thL ks key th) (newG ks.length σ th) (newB ks.length σ) (y0 f) (y f) ∧ (y0 f).g ≠ some false
  new : match nw with
    | none => ∀ f, σ f = none
    | some y => ∀ f, match σ f with
      | some (r, g) => ∃ y0, look m1 r = some y0 ∧ rowRen (thL ks key th) (newG ks.length σ th) (newB ks.length σ) (y0 g) (y f) ∧ (y0 g).g ≠ some false
      | none => (y f).n = 0

def endM (P : Program) (fn : Func) (K : AV → Mem → Prop) : AEx → St → Prop
  | .exit _, _ => False
  | _, s => match resAll P s fn.results.toList with
    | some (ob, a) => conj ob (K a s.m)
    | none => False

section
variable {P : Program} {G : Ctx} {w0 : Base} {w : World} {ρ : Env} {m : Mem} {D : Nat → Prop}

theorem R.ren {ρ' : Env} {θ : Nat → Nat → Nat × Nat} {g : Nat → Nat → Prop} {B : Nat → Prop} (hB : ∀ r, B r → g r 0 ∧ (θ r 0).2 = 0) {a : AV} {x : Value} (h : R w ρ a x) :
    (∀ b, ρ.imm b → ρ'.imm b) → (∀ r f, g r f → ρ.dom r → ρ'.dom (θ r f).1 ∧ ρ'.blk (θ r f).1 (θ r f).2 = ρ.blk r f ∧ ρ'.cap (θ r f).1 (θ r f).2 = ρ.cap r f) → ∀ d, kg g B d a → R w ρ' (renA θ d a) x := by
  induction h with
  | v => intro _ _ d _; cases d <;> exact .v
  | any => intro _ _ d _; cases d <;> exact .any
  | agg hl h ih =>
    intro hi hG d hk
    cases d with
    | zero => simp [kg] at hk
    | succ d =>
      simp only [kg] at hk
      simp only [renA]
      refine .agg (by simpa using hl) fun i b x h1 h2 => ?_
      simp only [List.getElem?_map, Option.map_eq_some_iff] at h1
      obtain ⟨c, hc, rfl⟩ := h1
      exact ih i c x hc h2 hi hG d (hk c (List.mem_of_getElem? hc))
  | tup hl h ih =>
    intro hi hG d hk
    cases d with
    | zero => simp [kg] at hk
    | succ d =>
      simp only [kg] at hk
      simp only [renA]
      refine .tup (by simpa using hl) fun i b x h1 h2 => ?_
      simp only [List.getElem?_map, Option.map_eq_some_iff] at h1
      obtain ⟨c, hc, rfl⟩ := h1
      exact ih i c x hc h2 hi hG d (hk c (List.mem_of_getElem? hc))
  | fn hl h ih =>
    intro hi hG d hk
    cases d with
    | zero => simp [kg] at hk
    | succ d =>
      simp only [kg] at hk
      simp only [renA]
      refine .fn (by simpa using hl) fun i b x h1 h2 => ?_
      simp only [List.getElem?_map, Option.map_eq_some_iff] at h1
      obtain ⟨c, hc, rfl⟩ := h1
      exact ih i c x hc h2 hi hG d (hk c (List.mem_of_getElem? hc))
  | iface h ih =>
    intro hi hG d hk
    cases d with
    | zero => simp [kg] at hk
    | succ d => simp only [kg] at hk; simp only [renA]; exact .iface (ih hi hG d hk)
  | yes h ih =>
    intro hi hG d hk
    cases d with
    | zero => simp [kg] at hk
    | succ d => simp only [kg] at hk; simp only [renA]; exact .yes (ih hi hG d hk)
  | no =>
    intro hi hG d hk
    cases d with
    | zero => simp [kg] at hk
    | succ d => simp only [renA]; exact .no
  | ro b o hn ha hi hlen hex hr ih =>
    intro hi' _ d _
    have : R w ρ' (.ro _ _ _) (.slice _ _ _) := .ro b o hn ha (fun h => hi' _ (hi h)) hlen hex fun i k c x h1 h2 h3 => (hr i k c x h1 h2 h3).mono (Env.le.ext hi') (.refl _ _)
    cases d <;> exact this
  | rop b o hi hex hr ih =>
    intro hi' _ d _
    have : R w ρ' (.rop _) (.pointer _) := .rop b o (hi' _ hi) hex fun k c x h1 h2 => (hr k c x h1 h2).mono (Env.le.ext hi') (.refl _ _)
    cases d <;> exact this
  | @bx ρ r k hd =>
    intro _ hG d hk
    have hk : B r := by cases d <;> simpa [kg] using hk
    obtain ⟨h1, h2⟩ := hB r hk
    obtain ⟨g1, g2, _⟩ := hG r 0 h1 hd
    rw [h2] at g2
    rw [← g2]
    have : R w ρ' (.bx (θ r 0).1 k) (.pointer (some ⟨ρ'.blk (θ r 0).1 0, k, none⟩)) := .bx g1
    cases d <;> exact this
  | @ptr ρ r f i sz k hd =>
    intro _ hG d hk
    have hk : g r f := by cases d <;> simpa [kg] using hk
    obtain ⟨g1, g2, _⟩ := hG r f hk hd
    rw [← g2]
    have : R w ρ' (.ptr (θ r f).1 (θ r f).2 i sz k) (.pointer (some ⟨ρ'.blk (θ r f).1 (θ r f).2, i * sz + k, none⟩)) := .ptr g1
    cases d <;> exact this
  | @own ρ r f nn sz aa hd hn ha =>
    intro _ hG d hk
    have hk : g r f := by cases d <;> simpa [kg] using hk
    obtain ⟨g1, g2, g3⟩ := hG r f hk hd
    have : R w ρ' (.own (θ r f).1 (θ r f).2 nn sz) (.slice aa nn (ρ'.cap (θ r f).1 (θ r f).2)) := .own g1 (by rw [g3]; exact hn) (by rw [g3, g2]; exact ha)
    rw [g3] at this
    cases d <;> exact this
  | @vw ρ r f l nn sz aa cap hd hn ha =>
    intro _ hG d hk
    have hk : g r f := by cases d <;> simpa [kg] using hk
    obtain ⟨g1, g2, g3⟩ := hG r f hk hd
    have : R w ρ' (.vw (θ r f).1 (θ r f).2 l nn sz) (.slice aa nn cap) := .vw g1 hn (by rw [g2]; exact ha)
    cases d <;> exact this
  | @mp ρ r f hd hc =>
    intro _ hG d hk
    have hk : g r f := by cases d <;> simpa [kg] using hk
    obtain ⟨g1, g2, g3⟩ := hG r f hk hd
    rw [← g2]
    have : R w ρ' (.mp (θ r f).1 (θ r f).2) (.map (some (ρ'.blk (θ r f).1 (θ r f).2))) := .mp g1 (by rw [g3]; exact hc)
    cases d <;> exact this
  | @rm _ n L _ b hi hb hM =>
    intro hi' _ d _
    have : R w ρ' (.rm n L) (.map (some b)) := .rm b (hi' _ hi) hb hM
    cases d <;> exact this

/-- The environment in which the callee begins. -/
def Env.canon (ρ : Env) (ks : List Nat) : Env where
  dom r := r < ks.length ∧ ρ.dom (ks.getD r 0)
  blk r f := ρ.blk (ks.getD r 0) f
  cap r f := ρ.cap (ks.getD r 0) f
  imm := ρ.imm

theorem R.unren {ks : List Nat} : ∀ (d : Nat) (a : AV) (x : Value), kg (lowG ks.length) (lowB ks.length) d a → R w ρ (renA (thE ks) d a) x → R w (ρ.canon ks) a x
  | d, .v y, x, hk, h => by
    have h : R w ρ (.v y) x := by cases d <;> exact h
    cases h; exact .v
  | d, .any, x, hk, h => .any
  | d, .ro n sz get, x, hk, h => by
    have h : R w ρ (.ro n sz get) x := by cases d <;> exact h
    cases h with | ro b o hn ha hi hlen hex hr => exact .ro b o hn ha hi hlen hex hr
  | d, .rop cs, x, hk, h => by
    have h : R w ρ (.rop cs) x := by cases d <;> exact h
    cases h with | rop b o hi hex hr => exact .rop b o hi hex hr
  | d, .bx r k, x, hk, h => by
    have h : R w ρ (.bx (ks.getD r 0) k) x := by cases d <;> exact h
    have hk : r < ks.length := by cases d <;> exact hk
    cases h with | bx hd => exact .bx (ρ := ρ.canon ks) ⟨hk, hd⟩
  | d, .ptr r f i sz k, x, hk, h => by
    have h : R w ρ (.ptr (ks.getD r 0) f i sz k) x := by cases d <;> exact h
    have hk : r < ks.length := by cases d <;> exact hk
    cases h with | ptr hd => exact .ptr (ρ := ρ.canon ks) ⟨hk, hd⟩
  | d, .own r f n sz, x, hk, h => by
    have h : R w ρ (.own (ks.getD r 0) f n sz) x := by cases d <;> exact h
    have hk : r < ks.length := by cases d <;> exact hk
    cases h with | own hd hn ha => exact .own (ρ := ρ.canon ks) ⟨hk, hd⟩ hn ha
  | d, .vw r f lo n sz, x, hk, h => by
    have h : R w ρ (.vw (ks.getD r 0) f lo n sz) x := by cases d <;> exact h
    have hk : r < ks.length := by cases d <;> exact hk
    cases h with | vw hd hn ha => exact .vw (ρ := ρ.canon ks) ⟨hk, hd⟩ hn ha
  | d, .mp r f, x, hk, h => by
    have h : R w ρ (.mp (ks.getD r 0) f) x := by cases d <;> exact h
    have hk : r < ks.length := by cases d <;> exact hk
    cases h with | mp hd hc => exact .mp (ρ := ρ.canon ks) ⟨hk, hd⟩ hc
  | d, .rm n L, x, hk, h => by
    have h : R w ρ (.rm n L) x := by cases d <;> exact h
    cases h with | rm b hi hb hM => exact .rm (ρ := ρ.canon ks) b hi hb hM
  | d + 1, .agg cs, x, hk, h => by
    simp only [renA] at h
    simp only [kg] at hk
    cases h with
    | agg hl h => exact .agg (by simpa using hl) fun i a x h1 h2 => R.unren d a x (hk a (List.mem_of_getElem? h1)) (h i _ x (by simp [h1]) h2)
  | d + 1, .tup cs, x, hk, h => by
    simp only [renA] at h
    simp only [kg] at hk
    cases h with
    | tup hl h => exact .tup (by simpa using hl) fun i a x h1 h2 => R.unren d a x (hk a (List.mem_of_getElem? h1)) (h i _ x (by simp [h1]) h2)
  | d + 1, .fn f cs, x, hk, h => by
    simp only [renA] at h
    simp only [kg] at hk
    cases h with
    | fn hl h => exact .fn (by simpa using hl) fun i a x h1 h2 => R.unren d a x (hk a (List.mem_of_getElem? h1)) (h i _ x (by simp [h1]) h2)
  | d + 1, .iface t a, x, hk, h => by
    simp only [renA] at h
    simp only [kg] at hk
    cases h with | iface h => exact .iface (R.unren d a _ hk h)
  | d + 1, .cond b a, x, hk, h => by
    simp only [renA] at h
    simp only [kg] at hk
    cases h with
    | yes h => exact .yes (R.unren d a _ hk h)
    | no => exact .no
  | 0, .agg _, _, hk, _ => by simp [kg] at hk
  | 0, .tup _, _, hk, _ => by simp [kg] at hk
  | 0, .fn _ _, _, hk, _ => by simp [kg] at hk
  | 0, .iface _ _, _, hk, _ => by simp [kg] at hk
  | 0, .cond _ _, _, hk, _ => by simp [kg] at hk

theorem look_setRows_off : ∀ {sets : List (Nat × Fam)} {m : Mem} {q : Nat}, q ∉ sets.map (·.1) → look (setRows sets m) q = look m q
  | [], m, q, _ => rfl
  | (r, x) :: rest, m, q, h => by
    simp only [List.map_cons, List.mem_cons, not_or] at h
    simp only [setRows]
    rw [look_setRows_off h.2, look_set, if_neg]
    intro e; exact h.1 e.1.symm
theorem look_setRows_at : ∀ {ks : List Nat} {ys : List Fam} {m : Mem}, ks.Nodup → (∀ k ∈ ks, (look m k).isSome = true) → ∀ (i : Nat) (k : Nat) (y : Fam), ks[i]? = some k → ys[i]? = some y → look (setRows (ks.zip ys) m) k = some y
  | [], ys, m, _, _, i, k, y, h, _ => by simp at h
  | k0 :: ks, [], m, _, _, i, k, y, _, h => by simp at h
  | k0 :: ks, y0 :: ys, m, hn, hs, i, k, y, h1, h2 => by
    simp only [List.zip_cons_cons, setRows]
    obtain ⟨n1, n2⟩ := List.nodup_cons.1 hn
    cases i with
    | zero =>
      simp at h1 h2
      subst h1 h2
      rw [look_setRows_off, look_set, if_pos ⟨rfl, hs k0 (by simp)⟩]
      intro hm
      obtain ⟨p, hp, e⟩ := List.mem_map.1 hm
      exact n1 (e ▸ (List.of_mem_zip hp).1)
    | succ i =>
      simp at h1 h2
      refine look_setRows_at n2 (fun q hq => ?_) i k y h1 h2
      rw [look_set]
      split
      · rfl
      · exact hs q (by simp [hq])

/-- Blocks of the rows that the callee is run on. -/
def Mine (ρ : Env) (m : Mem) (ks : List Nat) (b : Nat) : Prop := ∃ i x f, i < ks.length ∧ look m (ks.getD i 0) = some x ∧ 0 < ρ.cap (ks.getD i 0) f ∧ ρ.blk (ks.getD i 0) f = b
def Frozen (w0 : Base) (ρ : Env) (m : Mem) (ks : List Nat) (w : World) (b : Nat) : Prop := b < w.heap.size ∧ w0.heap.size ≤ b ∧ ¬ ρ.imm b ∧ ¬ Mine ρ m ks b

theorem nodup_inj {ks : List Nat} (h : ks.Nodup) {i j : Nat} (hi : i < ks.length) (hj : j < ks.length) (e : ks[i] = ks[j]) : i = j := by
  have hp := List.pairwise_iff_getElem.1 h
  rcases Nat.lt_trichotomy i j with hlt | he | hlt
  · exact absurd e (hp i j hi hj hlt)
  · exact he
  · exact absurd e.symm (hp j i hj hi hlt)
theorem getD_inj {ks : List Nat} (h : ks.Nodup) {i j : Nat} (hi : i < ks.length) (hj : j < ks.length) (e : ks.getD i 0 = ks.getD j 0) : i = j := by
  rw [List.getD_eq_getElem?_getD, List.getD_eq_getElem?_getD, List.getElem?_eq_getElem hi, List.getElem?_eq_getElem hj] at e
  simp only [Option.getD_some] at e
  exact nodup_inj h hi hj e

theorem RowOK.unren {wb : Base} (hwb : wb.toWorld = w0.toWorld) {ks : List Nat} {i f : Nat} {x0 x : Row} (h : RowOK w0 ρ w (ks.getD i 0) f x) (hr : rowRen (thE ks) (lowG ks.length) (lowB ks.length) x0 x) : RowOK wb (ρ.canon ks) w i f x0 := by
  obtain ⟨e1, e2, e3, e4, e5⟩ := hr
  refine ⟨by rw [← e1]; exact h.n_le, fun hc => ?_, fun j hj => ?_, fun j k c v hj hc hv => ?_⟩
  · rw [hwb, ← e1, ← e2, ← e3]; exact h.blk hc
  · have := h.len j (by omega)
    rw [(e5 j hj).1, e2] at this
    simpa using this
  · obtain ⟨g1, g2⟩ := e5 j hj
    refine R.unren 3 c v (g2 c (List.mem_of_getElem? hc)) (h.rel j k _ v (by omega) (by rw [g1]; simp [hc]) ?_)
    rw [e2]; exact hv

/-- The callee begins. -/
theorem Rel.canon (h : Rel w0 ρ m D w) {m' : Mem} (hm : ∀ r x, look m' r = some x → look m r = some x) {ks : List Nat} {m0 : Mem} {ars as0 : List AV} (he : Entry ks m' m0 ars as0) :
    Rel { w0 with fix := keepAll (Frozen w0 ρ m ks w) w, kept := keepAll ρ.imm w } (ρ.canon ks) m0 (· < ks.length) w := by
  have back : ∀ r x0, look m0 r = some x0 → r < ks.length ∧ ∃ x, look m (ks.getD r 0) = some x ∧ ∀ f, (x f).g = none ∧ rowRen (thE ks) (lowG ks.length) (lowB ks.length) (x0 f) (x f) := fun r x0 hr => by
    have hlt := he.only r x0 hr
    obtain ⟨x0', x, h1, h2, h3⟩ := he.rows r hlt
    rw [hr] at h1; cases h1
    exact ⟨hlt, x, hm _ _ h2, h3⟩
  refine ⟨h.below, h.imm2, fun r hr => hr.1, fun r x hx => he.only r x hx, fun r x0 f hx hg => ?_, fun r x f r' x' f' hx hx' hg hg' hc hc' e => ?_, fun p hp => ?_, fun p hp => keepAll_mem hp⟩
  · obtain ⟨hlt, x, h1, h2⟩ := back r x0 hx
    obtain ⟨d1, d2⟩ := h.row _ x f h1 (by rw [(h2 f).1]; simp)
    exact ⟨⟨hlt, d1⟩, RowOK.unren (w0 := w0) (wb := { w0 with fix := keepAll (Frozen w0 ρ m ks w) w, kept := keepAll ρ.imm w }) rfl d2 (h2 f).2⟩
  · obtain ⟨l1, y, h1, h2⟩ := back r x hx
    obtain ⟨l2, y', h3, h4⟩ := back r' x' hx'
    obtain ⟨e1, e2⟩ := h.sep _ y f _ y' f' h1 h3 (by rw [(h2 f).1]; simp) (by rw [(h4 f').1]; simp) hc hc' e
    exact ⟨getD_inj he.nodup l1 l2 e1, e2⟩
  · obtain ⟨⟨k1, k2, k3, k4⟩, k5⟩ := keepAll_mem hp
    refine ⟨k2, fun r x0 f hx hg hc e => ?_, k3, k5⟩
    obtain ⟨hlt, x, h1, _⟩ := back r x0 hx
    exact k4 ⟨r, x, f, hlt, h1, hc, e⟩

theorem RowOK.ren {wb : Base} (hwb : wb.toWorld = w0.toWorld) {ρ' ρc : Env} {w' : World} {θ : Nat → Nat → Nat × Nat} {g : Nat → Nat → Prop} {B : Nat → Prop} (hB : ∀ r, B r → g r 0 ∧ (θ r 0).2 = 0) (hi : ∀ b, ρ'.imm b ↔ ρc.imm b)
    (hG : ∀ r f, g r f → ρ'.dom r → ρc.dom (θ r f).1 ∧ ρc.blk (θ r f).1 (θ r f).2 = ρ'.blk r f ∧ ρc.cap (θ r f).1 (θ r f).2 = ρ'.cap r f) {q fq k f : Nat} (hb : ρc.blk k f = ρ'.blk q fq) (hc : ρc.cap k f = ρ'.cap q fq) {y0 y : Row}
    (h : RowOK wb ρ' w' q fq y0) (hr : rowRen θ g B y0 y) : RowOK w0 ρc w' k f y := by
  obtain ⟨e1, e2, e3, e4, e5⟩ := hr
  refine ⟨by rw [e1, hc]; exact h.n_le, fun hcp => ?_, fun j hj => ?_, fun j k' c v hj hck hv => ?_⟩
  · rw [hc] at hcp
    obtain ⟨b1, b2, c, b3, b4⟩ := h.blk hcp
    rw [hb, hc, e1, e2, e3, ← hwb]
    exact ⟨b1, fun hh => b2 ((hi _).2 hh), c, b3, b4⟩
  · rw [(e5 j (by omega)).1, e2, List.length_map]
    exact h.len j (by omega)
  · obtain ⟨g1, g2⟩ := e5 j (by omega)
    rw [g1, List.getElem?_map, Option.map_eq_some_iff] at hck
    obtain ⟨c0, hc0, rfl⟩ := hck
    rw [hb, e2] at hv
    exact R.ren hB (h.rel j k' c0 v (by omega) hc0 hv) (fun b => (hi b).1) hG 3 (g2 c0 (List.mem_of_getElem? hc0))

/-- Behind the call. -/
theorem leave_post (h : Rel w0 ρ m D w) {key : Nat} (hk : ¬ D key) {m' : Mem} (hm : ∀ r x, look m' r = some x → look m r = some x) {ks : List Nat} {m0 : Mem} {ars as0 : List AV} (he : Entry ks m' m0 ars as0)
    {w1 : Base} {ρ' : Env} {m1 : Mem} {D1 : Nat → Prop} {w' : World} (hw1 : w1.toWorld = w0.toWorld) (hold : w1.old = w0.old) (hfix : ∀ p ∈ keepAll (Frozen w0 ρ m ks w) w, p ∈ w1.fix) (hkept : w1.kept = keepAll ρ.imm w)
    (h1 : Rel w1 ρ' m1 D1 w') (hkp : Keeps ks.length (ρ.canon ks) ρ') {σ : Nat → Option (Nat × Nat)} {th : Nat → Nat → Nat} {a : AV} {ys : List Fam} {nw : Option Fam} {val : AV} (hl : Leave key ks σ th m1 a ys nw val) {v : Value} (hv : R w' ρ' a v) {ob : List Prop} :
    Post w0 ρ m D key ⟨ob, val, .many (ks.zip ys) nw⟩ w v w' := by
  have hkd : ¬ ρ.dom key := fun hd => hk (h.dom _ hd)
  have inks : ∀ i, i < ks.length → ∃ x, look m (ks.getD i 0) = some x ∧ (∀ f, (x f).g = none) ∧ ρ.dom (ks.getD i 0) := fun i hi => by
    obtain ⟨x0, x, k1, k2, k3⟩ := he.rows i hi
    have h2 := hm _ _ k2
    exact ⟨x, h2, fun f => (k3 f).1, (h.row _ x 0 h2 (by rw [(k3 0).1]; simp)).1⟩
  have keyks : ∀ i, i < ks.length → ks.getD i 0 ≠ key := fun i hi e => by
    obtain ⟨x, k1, _, _⟩ := inks i hi
    exact hk (e ▸ h.key _ _ k1)
  have himm : ∀ b, ρ.imm b → b < w.heap.size := h.imm
  have hsame : Same ρ.imm w w' := keepAll_same himm fun p hp => (h1.kept p (by rw [hkept]; exact hp)).2
  have himm' : ∀ b, ρ.imm b → ρ'.imm b := fun b hb => by
    have hlt := himm b hb
    have hmem : (b, w.heap[b]) ∈ keepAll ρ.imm w := by
      unfold keepAll
      exact List.mem_filterMap.2 ⟨b, List.mem_range.2 hlt, by rw [if_pos hb]; simp [hlt]⟩
    exact (h1.kept _ (by rw [hkept]; exact hmem)).1
  have hfroz : ∀ b, Frozen w0 ρ m ks w b → Off ρ' m1 b ∧ ¬ ρ'.imm b ∧ w'.heap[b]? = w.heap[b]? := fun b hb => by
    have hlt := hb.1
    have hmem : (b, w.heap[b]) ∈ keepAll (Frozen w0 ρ m ks w) w := by
      unfold keepAll
      exact List.mem_filterMap.2 ⟨b, List.mem_range.2 hlt, by rw [if_pos hb]; simp [hlt]⟩
    obtain ⟨_, k2, k3, k4⟩ := h1.fix _ (hfix _ hmem)
    exact ⟨k2, k3, by rw [k4]; simp [hlt]⟩
  -- the caller's environment
  obtain ⟨ρc, hρc⟩ : ∃ ρc : Env, ρc = { dom := fun q => ρ.dom q ∨ q = key, blk := fun q f => if q = key then (match σ f with | some (r, g) => ρ'.blk r g | none => 0) else ρ.blk q f, cap := fun q f => if q = key then (match σ f with | some (r, g) => ρ'.cap r g | none => 0) else ρ.cap q f, imm := ρ'.imm } := ⟨_, rfl⟩
  have cd : ∀ q, ρc.dom q ↔ ρ.dom q ∨ q = key := fun q => by rw [hρc]
  have cb : ∀ q f, q ≠ key → ρc.blk q f = ρ.blk q f := fun q f hq => by rw [hρc]; simp [hq]
  have cc : ∀ q f, q ≠ key → ρc.cap q f = ρ.cap q f := fun q f hq => by rw [hρc]; simp [hq]
  have cbk : ∀ f r g, σ f = some (r, g) → ρc.blk key f = ρ'.blk r g := fun f r g h => by rw [hρc]; simp [h]
  have cck : ∀ f r g, σ f = some (r, g) → ρc.cap key f = ρ'.cap r g := fun f r g h => by rw [hρc]; simp [h]
  have cc0 : ∀ f, σ f = none → ρc.cap key f = 0 := fun f h => by rw [hρc]; simp [h]
  have ci : ∀ b, ρ'.imm b ↔ ρc.imm b := fun b => by rw [hρc]
  have hle : ρ.le ρc := ⟨fun r hr => (cd r).2 (.inl hr), fun r f hr => cb r f (fun e => hkd (e ▸ hr)), fun r f hr => cc r f (fun e => hkd (e ▸ hr)), fun b hb => (ci b).1 (himm' b hb)⟩
  have kb' : ∀ i f, i < ks.length → ρ'.blk i f = ρ.blk (ks.getD i 0) f ∧ ρ'.cap i f = ρ.cap (ks.getD i 0) f := fun i f hi => by
    obtain ⟨_, _, _, hd⟩ := inks i hi
    exact (hkp i hi ⟨hi, hd⟩).2 f
  -- the renaming
  have hB : ∀ r, newB ks.length σ r → newG ks.length σ th r 0 ∧ (thL ks key th r 0).2 = 0 := fun r hr => by
    unfold newB at hr
    unfold newG thL
    by_cases hlt : r < ks.length
    · simp [hlt]
    · rcases hr with hr | hr
      · exact absurd hr hlt
      · rw [if_neg hlt]
        obtain ⟨_, h2⟩ := hl.new1 0 r 0 hr
        exact ⟨.inr (by rw [h2]; exact hr), h2⟩
  have hG : ∀ r f, newG ks.length σ th r f → ρ'.dom r → ρc.dom (thL ks key th r f).1 ∧ ρc.blk (thL ks key th r f).1 (thL ks key th r f).2 = ρ'.blk r f ∧ ρc.cap (thL ks key th r f).1 (thL ks key th r f).2 = ρ'.cap r f := fun r f hg hd => by
    unfold thL
    by_cases hlt : r < ks.length
    · rw [if_pos hlt]
      obtain ⟨_, _, _, hdd⟩ := inks r hlt
      obtain ⟨b1, b2⟩ := kb' r f hlt
      refine ⟨(cd _).2 (.inl hdd), ?_, ?_⟩
      · rw [cb _ _ (keyks r hlt), b1]
      · rw [cc _ _ (keyks r hlt), b2]
    · rw [if_neg hlt]
      rcases hg with hg | hg
      · exact absurd hg hlt
      · exact ⟨(cd _).2 (.inr rfl), cbk _ _ _ hg, cck _ _ _ hg⟩
  -- the rows
  have hzk : ∀ q, q ∉ ks → look (setRows (ks.zip ys) m) q = look m q := fun q hq => look_setRows_off fun hm => by
    obtain ⟨p, hp, rfl⟩ := List.mem_map.1 hm
    exact hq (List.of_mem_zip hp).1
  have ksome : ∀ k ∈ ks, (look m k).isSome = true := fun k hk' => by
    obtain ⟨i, hi, rfl⟩ := List.getElem_of_mem hk'
    obtain ⟨x, k1, _⟩ := inks i hi
    rw [List.getD_eq_getElem?_getD, List.getElem?_eq_getElem hi] at k1
    simp only [Option.getD_some] at k1
    rw [k1]; rfl
  have hza : ∀ i, i < ks.length → look (setRows (ks.zip ys) m) (ks.getD i 0) = some dead ∨ ∃ y0 y, look m1 i = some y0 ∧ look (setRows (ks.zip ys) m) (ks.getD i 0) = some y ∧ ∀ f, rowRen (thL ks key th) (newG ks.length σ th) (newB ks.length σ) (y0 f) (y f) ∧ (y0 f).g ≠ some false := fun i hi => by
    rcases hl.rows i hi with k2 | ⟨y0, y, k1, k2, k3⟩
    · left
      refine look_setRows_at he.nodup ksome i _ dead ?_ k2
      rw [List.getD_eq_getElem?_getD, List.getElem?_eq_getElem hi]; simp
    right
    refine ⟨y0, y, k1, look_setRows_at he.nodup ksome i _ y ?_ k2, k3⟩
    rw [List.getD_eq_getElem?_getD, List.getElem?_eq_getElem hi]; simp
  have hkl : look (setRows (ks.zip ys) m) key = none := by
    have : key ∉ ks := fun hm => by
      obtain ⟨i, hi, e⟩ := List.getElem_of_mem hm
      exact keyks i hi (by rw [List.getD_eq_getElem?_getD, List.getElem?_eq_getElem hi]; simpa using e)
    rw [hzk key this]
    cases hl : look m key with
    | none => rfl
    | some y => exact absurd (h.key _ _ hl) hk
  obtain ⟨m2, hm2⟩ : ∃ m2, m2 = Upd.app key m (.many (ks.zip ys) nw) := ⟨_, rfl⟩
  -- where a row of the new memory comes from
  have look2 : ∀ r x, look m2 r = some x → (r = key ∧ nw = some x) ∨ (r ≠ key ∧ ((∃ i, i < ks.length ∧ r = ks.getD i 0) ∨ (r ∉ ks ∧ look m r = some x))) := fun r x hx => by
    have step : ∀ r, r ≠ key → look (setRows (ks.zip ys) m) r = some x → (∃ i, i < ks.length ∧ r = ks.getD i 0) ∨ (r ∉ ks ∧ look m r = some x) := fun r hr hx => by
      by_cases hmem : r ∈ ks
      · obtain ⟨i, hi, e⟩ := List.getElem_of_mem hmem
        exact .inl ⟨i, hi, by rw [List.getD_eq_getElem?_getD, List.getElem?_eq_getElem hi]; simpa using e.symm⟩
      · exact .inr ⟨hmem, by rw [hzk r hmem] at hx; exact hx⟩
    rw [hm2] at hx
    unfold Upd.app at hx
    cases hn : nw with
    | none =>
      rw [hn] at hx
      dsimp only at hx
      have hne : r ≠ key := fun e => by rw [e, hkl] at hx; cases hx
      exact .inr ⟨hne, step r hne hx⟩
    | some y =>
      rw [hn] at hx
      dsimp only at hx
      rw [look_ins hkl] at hx
      split at hx
      · rename_i e; cases hx; exact .inl ⟨e.symm, rfl⟩
      · rename_i e; exact .inr ⟨Ne.symm e, step r (Ne.symm e) hx⟩
  have look2k : ∀ i, i < ks.length → ∀ x, look m2 (ks.getD i 0) = some x → (∃ f, (x f).g ≠ some false) → ∃ y0, look m1 i = some y0 ∧ ∀ f, rowRen (thL ks key th) (newG ks.length σ th) (newB ks.length σ) (y0 f) (x f) ∧ (y0 f).g ≠ some false := fun i hi x hx hgg => by
    have up : ∀ y, look (setRows (ks.zip ys) m) (ks.getD i 0) = some y → look m2 (ks.getD i 0) = some y := fun y k2 => by
      rw [hm2]
      unfold Upd.app
      cases nw with
      | none => exact k2
      | some z => dsimp only; rw [look_ins hkl, if_neg (Ne.symm (keyks i hi))]; exact k2
    rcases hza i hi with k2 | ⟨y0, y, k1, k2, k3⟩
    · have := up _ k2
      rw [hx] at this; cases this
      obtain ⟨f, hg⟩ := hgg
      exact absurd rfl hg
    have := up _ k2
    rw [hx] at this; cases this
    exact ⟨y0, k1, k3⟩
  -- what stands behind a row: a row of the callee's, or one of the caller's that was left alone
  have src : ∀ r x f, look m2 r = some x → (x f).g ≠ some false → 0 < ρc.cap r f →
      (∃ q y0 fq, look m1 q = some y0 ∧ (y0 fq).g ≠ some false ∧ 0 < ρ'.cap q fq ∧ ρc.blk r f = ρ'.blk q fq ∧ ((q < ks.length ∧ r = ks.getD q 0 ∧ fq = f) ∨ (r = key ∧ σ f = some (q, fq)))) ∨
      (r ≠ key ∧ r ∉ ks ∧ look m r = some x ∧ 0 < ρ.cap r f ∧ ρc.blk r f = ρ.blk r f ∧ Frozen w0 ρ m ks w (ρ.blk r f)) := fun r x f hx hg hc => by
    rcases look2 r x hx with ⟨e1, e2⟩ | ⟨hne, ⟨i, hi, e⟩ | ⟨hmem, hlr⟩⟩
    · left
      subst e1
      have hnew := hl.new
      rw [e2] at hnew
      have hnf := hnew f
      cases hs : σ f with
      | none => rw [cc0 f hs] at hc; omega
      | some p =>
        obtain ⟨q, g⟩ := p
        rw [hs] at hnf
        obtain ⟨y0, k1, k2, k3⟩ := hnf
        exact ⟨q, y0, g, k1, k3, by rw [← cck f q g hs]; exact hc, cbk f q g hs, .inr ⟨rfl, rfl⟩⟩
    · left
      subst e
      obtain ⟨y0, k1, k2⟩ := look2k i hi x hx ⟨f, hg⟩
      obtain ⟨b1, b2⟩ := kb' i f hi
      exact ⟨i, y0, f, k1, (k2 f).2, by rw [b2, ← cc _ _ hne]; exact hc, by rw [cb _ _ hne, b1], .inl ⟨hi, rfl, rfl⟩⟩
    · right
      rw [cc _ _ hne] at hc
      have hrow := (h.row r x f hlr hg).2
      obtain ⟨b1, b2, _⟩ := hrow.blk hc
      refine ⟨hne, hmem, hlr, hc, cb _ _ hne, h.lt hlr hg hc, b1, b2, ?_⟩
      rintro ⟨i, z, g, hi, hz, hcz, e⟩
      obtain ⟨x', k1, k2, _⟩ := inks i hi
      rw [hz] at k1; cases k1
      have := h.sep r x f _ z g hlr hz hg (by rw [k2 g]; simp) hc hcz e.symm
      refine hmem (this.1 ▸ ?_)
      rw [List.getD_eq_getElem?_getD, List.getElem?_eq_getElem hi]
      simp
  have hRel : Rel w0 ρc m2 (fun r => D r ∨ r = key) w' := by
    refine ⟨by have := h1.below; rw [hw1] at this; exact this, fun b hb => ?_, fun r hr => ((cd r).1 hr).imp (h.dom r) id, fun r x hx => ?_, fun r x f hx hg => ?_, fun r x f r' x' f' hx hx' hg hg' hc hc' e => ?_, fun p hp => ?_, fun p hp => ?_⟩
    · have := h1.imm2 b ((ci b).2 hb)
      rw [hold, hw1] at this
      exact this
    · rcases look2 r x hx with ⟨e1, _⟩ | ⟨_, ⟨i, hi, e⟩ | ⟨_, hlr⟩⟩
      · exact .inr e1
      · obtain ⟨z, k1, _⟩ := inks i hi
        exact .inl (e ▸ h.key _ _ k1)
      · exact .inl (h.key _ _ hlr)
    · rcases look2 r x hx with ⟨e1, e2⟩ | ⟨hne, ⟨i, hi, e⟩ | ⟨hmem, hlr⟩⟩
      · refine ⟨(cd r).2 (.inr e1), ?_⟩
        subst e1
        have hnew := hl.new
        rw [e2] at hnew
        have hnf := hnew f
        cases hs : σ f with
        | some p =>
          obtain ⟨q, g⟩ := p
          rw [hs] at hnf
          obtain ⟨y0, k1, k2, k3⟩ := hnf
          exact RowOK.ren hw1 hB ci hG (cbk f q g hs) (cck f q g hs) (h1.row _ y0 g k1 k3).2 k2
        | none =>
          rw [hs] at hnf
          have hn0 : (x f).n = 0 := hnf
          have hc0 : ρc.cap r f = 0 := cc0 f hs
          exact ⟨by omega, fun hc => by omega, fun i hi => by omega, fun i k c v hi => by omega⟩
      · subst e
        obtain ⟨y0, k1, k2⟩ := look2k i hi x hx ⟨f, hg⟩
        obtain ⟨_, _, _, hdd⟩ := inks i hi
        obtain ⟨b1, b2⟩ := kb' i f hi
        exact ⟨(cd _).2 (.inl hdd), RowOK.ren hw1 hB ci hG (by rw [cb _ _ hne, b1]) (by rw [cc _ _ hne, b2]) (h1.row i y0 f k1 (k2 f).2).2 (k2 f).1⟩
      · obtain ⟨d1, d2⟩ := h.row r x f hlr hg
        refine ⟨(cd r).2 (.inl d1), ⟨by rw [cc _ _ hne]; exact d2.n_le, fun hc => ?_, d2.len, fun i k c v hi hck hv => ?_⟩⟩
        · rcases src r x f hx hg hc with ⟨q, y0, fq, _, _, _, _, hh⟩ | ⟨_, _, _, hc2, e2, hf⟩
          · exfalso
            rcases hh with ⟨hq, e, _⟩ | ⟨e, _⟩
            · refine hmem (e ▸ ?_)
              rw [List.getD_eq_getElem?_getD, List.getElem?_eq_getElem hq]; simp
            · exact hne e
          · obtain ⟨b1, b2, c, b3, b4⟩ := d2.blk hc2
            obtain ⟨f1, f2, f3⟩ := hfroz _ hf
            rw [e2, cc _ _ hne, f3]
            exact ⟨b1, fun hh => f2 ((ci _).2 hh), c, b3, b4⟩
        · have hcap : 0 < ρc.cap r f := by rw [cc _ _ hne]; have := d2.n_le; omega
          rcases src r x f hx hg hcap with ⟨q, y0, fq, _, _, _, _, hh⟩ | ⟨_, _, _, hc2, e2, hf⟩
          · exfalso
            rcases hh with ⟨hq, e, _⟩ | ⟨e, _⟩
            · refine hmem (e ▸ ?_)
              rw [List.getD_eq_getElem?_getD, List.getElem?_eq_getElem hq]; simp
            · exact hne e
          · obtain ⟨f1, f2, f3⟩ := hfroz _ hf
            rw [e2] at hv
            exact (d2.rel i k c v hi hck ((Has_block f3).1 hv)).mono hle hsame
    · rcases src r x f hx hg hc with ⟨q, y0, fq, k1, k2, k3, k4, k5⟩ | ⟨l1, l2, l3, l4, l5, l6⟩ <;> rcases src r' x' f' hx' hg' hc' with ⟨q', y0', fq', k1', k2', k3', k4', k5'⟩ | ⟨l1', l2', l3', l4', l5', l6'⟩
      · obtain ⟨e1, e2⟩ := h1.sep q y0 fq q' y0' fq' k1 k1' k2 k2' k3 k3' (by rw [← k4, ← k4']; exact e)
        subst e1 e2
        rcases k5 with ⟨a1, a2, a3⟩ | ⟨a1, a2⟩ <;> rcases k5' with ⟨b1, b2, b3⟩ | ⟨b1, b2⟩
        · exact ⟨a2.trans b2.symm, a3.symm.trans b3⟩
        · have := (hl.new1 _ _ _ b2).1; omega
        · have := (hl.new1 _ _ _ a2).1; omega
        · exact ⟨a1.trans b1.symm, (hl.new1 _ _ _ a2).2.symm.trans (hl.new1 _ _ _ b2).2⟩
      · exfalso
        have := (hfroz _ l6').1 q y0 fq k1 k2 k3
        exact this (by rw [← k4, ← l5']; exact e)
      · exfalso
        have := (hfroz _ l6).1 q' y0' fq' k1' k2' k3'
        exact this (by rw [← k4', ← l5]; exact e.symm)
      · exact h.sep r x f r' x' f' l3 l3' hg hg' l4 l4' (by rw [← l5, ← l5']; exact e)
    · obtain ⟨p1, p2, p3, p4⟩ := h.fix p hp
      have hlt := h.fixlt hp
      have hf : Frozen w0 ρ m ks w p.1 := ⟨hlt, p1, p3, fun ⟨i, z, g, hi, hz, hcz, e⟩ => by
        obtain ⟨x', k1, k2, _⟩ := inks i hi
        rw [hz] at k1; cases k1
        exact p2 _ z g hz (by rw [k2 g]; simp) hcz e⟩
      obtain ⟨f1, f2, f3⟩ := hfroz _ hf
      refine ⟨p1, fun r x f hx hg hc e => ?_, fun hh => f2 ((ci _).2 hh), f3.trans p4⟩
      rcases src r x f hx hg hc with ⟨q, y0, fq, k1, k2, k3, k4, _⟩ | ⟨_, _, l3, l4, l5, _⟩
      · exact f1 q y0 fq k1 k2 k3 (by rw [← k4]; exact e)
      · exact p2 r x f l3 hg l4 (by rw [← l5]; exact e)
    · obtain ⟨p1, p2⟩ := h.keeps hsame p hp
      exact ⟨(ci _).1 (himm' _ p1), p2⟩
  refine ⟨ρc, ?_, by rw [← hm2]; exact hRel, hle, hsame⟩
  show R w' ρc val v
  rw [hl.val]
  exact R.ren hB hv (fun b => (ci b).1) hG 3 hl.valk

/-- A contract that a body that writes rows has earned. -/
theorem MConOK.of {H : Hots} (hG : CtxOK P G) {f : FuncId} {fn : Func} (hf : P.funcs[f]? = some fn) {c : MCon}
    (h : ∀ key m ars e, c key m ars = some e → (∀ p ∈ e.ob, p) → ∃ ks m0 as0, Entry ks m m0 ars as0 ∧ funcOK P H fn as0.length = true ∧ ∃ cd, fn.body = some cd ∧
      awp P G H cd ⟨argSlots 0 as0, m0, ks.length⟩ (endM P fn fun a m1 => ∃ σ th ys nw, e.u = .many (ks.zip ys) nw ∧ Leave key ks σ th m1 a ys nw e.val)) : MConOK P f c := by
  intro w0 ρ m m' D w key ars vs e hR hk hm hRs hc hob _
  obtain ⟨ks, m0, as0, he, hok, cd, hb, h⟩ := h key m' ars e hc hob
  unfold funcOK at hok
  simp only [Bool.and_eq_true, Bool.not_eq_true', decide_eq_true_eq] at hok
  obtain ⟨⟨⟨hmx, hname⟩, hsz⟩, hbody⟩ := hok
  rw [hb] at hbody
  dsimp only at hbody
  have hlen : vs.length = as0.length := by have := hRs.1; rw [he.args] at this; simpa using this
  have hrel := hR.canon hm he
  refine .inr ⟨?_, callsIn_wide.1 (callsIn_of_wp_marks (n := 0) (F := Fence.wide) hf hb trivial ?_)⟩
  · unfold callFunc
    simp only [Sem.run_bind]
    show Sem.run P (match P.funcs[f]? with | none => _ | some fn => _) w = _
    rw [hf]
    dsimp only
    rw [if_neg (by rw [hname]; simp), if_neg (by rw [hb]; simp)]
    rfl
  · have hnt : (vs.toArray ++ Array.replicate (fn.ntmps - vs.toArray.size) undef).size = fn.ntmps := by simp; omega
    refine awp_sound hG hmx cd none 0 _ _ _ ⟨[], fun _ => True, #[]⟩ (ρ.canon ks) _ w _ hbody (fun l hl => by cases hl) (fun _ _ => trivial) h ⟨hrel, fun j => ?_, hnt, rfl, fun j hj => absurd trivial hj⟩ fun e' s' w1 ds1 ρ' a' w' k0 k1 k2 k3 k4 k5 => ?_
    · rw [argSlots_get]
      split
      · rename_i hj
        have hj' : j < as0.length := by omega
        have hj2 : j < vs.length := by omega
        have hget : as0[j]? = some as0[j] := List.getElem?_eq_getElem hj'
        have hR1 := hRs.2 j (renA (thE ks) 3 as0[j]) vs[j] (by rw [he.args]; simp [hget]) (by simp)
        have := R.unren 3 as0[j] vs[j] (he.argk _ (List.getElem_mem hj')) hR1
        have e1 : as0.getD (j - 0) (AV.v undef) = as0[j] := by simp [List.getD, hget]
        have e2 : (vs.toArray ++ Array.replicate (fn.ntmps - vs.toArray.size) undef).getD j undef = vs[j] := by
          simp [Array.getD_eq_getD_getElem?, Array.getElem?_append, hj2]
        rw [e1, e2]
        exact this
      · rename_i hj
        have hj2 : vs.length ≤ j := by omega
        have : (vs.toArray ++ Array.replicate (fn.ntmps - vs.toArray.size) undef).getD j undef = undef := by
          rw [Array.getD_eq_getD_getElem?, Array.getElem?_append_right (by simpa using hj2), Array.getElem?_replicate]
          split <;> rfl
        rw [this]
        exact .v
    · obtain ⟨fx, ms, e1, e2, hms, hnd, hoff, _⟩ := k0
      have fin : ∀ e', e' = AEx.normal ∨ e' = AEx.ret → endM P fn (fun a m1 => ∃ σ th ys nw, e.u = .many (ks.zip ys) nw ∧ Leave key ks σ th m1 a ys nw e.val) e' s' →
          LeavesInM Fence.wide 0 P fn a'.tmps (fun e' w' => ∃ v, e' = .returned v ∧ Post w0 ρ m D key e w v w') a'.defers .returning w' := by
        intro e' he' h
        have h : match resAll P s' fn.results.toList with
            | some (ob, a) => conj ob (∃ σ th ys nw, e.u = .many (ks.zip ys) nw ∧ Leave key ks σ th s'.m a ys nw e.val)
            | none => False := by
          rcases he' with rfl | rfl <;> exact h
        rw [k4.defers, e2]
        simp only [List.append_nil]
        refine leaves_marks ms w1 w' hnd (fun b hb => by rw [e1]; exact List.mem_append.2 (.inl (hms b hb))) k4 fun w2 w'' g1 g2 g3 g4 k6 => ?_
        split at h
        · rename_i ob x hx
          obtain ⟨hob2, σ, th, ys, nw, hu, hlv⟩ := conj_iff.1 h
          obtain ⟨v, h1, h2⟩ := resAll_sound k6 hx hob2
          refine ⟨v, h1, v, rfl, ?_⟩
          have hp := leave_post hR hk hm he (w1 := w2) (by rw [g1, e1]) (by rw [g2, e1]) (fun p hp => g3 p (by rw [e1]; exact List.mem_append.2 (.inr hp)) (fun hms' => hoff _ hms' p hp rfl)) (by rw [g4, e1]) k6.rel k5 hlv h2 (ob := e.ob)
          obtain ⟨eob, eval, eu⟩ := e
          dsimp only at hu
          subst hu
          exact hp
        · exact h.elim
      cases e' with
      | normal => exact fin .normal (.inl rfl) k1
      | ret => exact fin .ret (.inr rfl) k1
      | exit j => exact k1.elim

end
end Go.Ax
end

section
/-
  Families of rows: an element that is pointed at; a table of pointers to rows of one element.
-/
set_option linter.unusedVariables false
namespace Go.Ax
section
variable {P : Program} {m : Mem} {d k n sz : Nat} {ty : TypeId} {g : Option Bool} {cs cs' l : List AV} {f i r : Nat} {fam : Fam} {get : Nat → List AV}

/-- The family, the element i of its row f being this. -/
def famE (fam : Fam) (f i : Nat) (cs : List AV) : Fam := fun f' => if f' = f then { fam f with get := fun j => if j = i then cs else (fam f).get j } else fam f'
theorem famE_n {f' : Nat} : (famE fam f i cs f').n = (fam f').n := by
  unfold famE; split
  · rename_i e; subst e; rfl
  · rfl
theorem famE_sz {f' : Nat} : (famE fam f i cs f').sz = (fam f').sz := by
  unfold famE; split
  · rename_i e; subst e; rfl
  · rfl
theorem famE_g {f' : Nat} : (famE fam f i cs f').g = (fam f').g := by
  unfold famE; split
  · rename_i e; subst e; rfl
  · rfl
theorem famE_get : (famE fam f i cs f).get i = cs := by simp [famE]
theorem famE_off {f' : Nat} (h : f' ≠ f) : famE fam f i cs f' = fam f' := by simp [famE, h]
theorem famE_twice {l : List AV} : famE (famE fam f i cs) f i l = famE fam f i l := by
  funext f'
  unfold famE
  by_cases h : f' = f
  · subst h
    simp only [if_true]
    congr 1
    funext j
    by_cases e : j = i <;> simp [e]
  · simp [h]
theorem updAt_E : updAt (famE fam f i cs) f i k l = famE fam f i (putCells cs k l) := by
  funext f'
  unfold updAt famE
  by_cases h : f' = f
  · subst h
    simp only [if_true]
    congr 1
    funext j
    by_cases e : j = i <;> simp [e]
  · simp [h]
theorem updAt_E2 {f' j : Nat} (h : f' ≠ f) : updAt (famE fam f i cs) f' j k l = famE (updAt fam f' j k l) f i cs := by
  funext q
  unfold updAt famE
  by_cases h1 : q = f'
  · subst h1; simp [h]
  · by_cases h2 : q = f
    · subst h2; simp [h1]
    · simp [h1, h2]

theorem loadP_E {q : TypeId} {sz : Nat} : loadP P q f i sz k (some (famE fam f i cs)) = effL ((i < (fam f).n) :: (sz = (fam f).sz) :: gOb (fam f).g []) (ofC (layT P q) (cs.drop k)) := by
  rw [← ofCells_eq]
  unfold loadP
  dsimp only
  rw [famE_get, famE_n, famE_sz, famE_g]
  cases ofCells P q (cs.drop k) <;> rfl
theorem loadP_E2 {q : TypeId} {f' j sz : Nat} (h : f' ≠ f) : loadP P q f' j sz k (some (famE fam f i cs)) = loadP P q f' j sz k (some fam) := by
  unfold loadP
  dsimp only
  rw [famE_off h]
theorem storeP_E {sz : Nat} : storeP r f i sz k l (some (famE fam f i cs)) = if k + l.length ≤ sz then some ⟨(i < (fam f).n) :: (sz = (fam f).sz) :: gOb (fam f).g [], .v undef, .set r (famE fam f i (putCells cs k l))⟩ else none := by
  unfold storeP
  dsimp only
  rw [famE_n, famE_sz, famE_g, updAt_E]
theorem storeP_E2 {f' j sz : Nat} (h : f' ≠ f) : storeP r f' j sz k l (some (famE (famE fam f' j cs) f i cs')) = if k + l.length ≤ sz then some ⟨(j < (fam f').n) :: (sz = (fam f').sz) :: gOb (fam f').g [], .v undef, .set r (famE (famE fam f' j (putCells cs k l)) f i cs')⟩ else none := by
  unfold storeP
  dsimp only
  rw [famE_n, famE_sz, famE_g, famE_n, famE_sz, famE_g, updAt_E2 h, updAt_E]

/-- A table of N pointers (row 0 of the family K) to rows of one element (rows 1 to N). -/
def famT (K N sz : Nat) (tp ty : TypeId) (get : Nat → List AV) : Fam := fun f => match f with
  | 0 => ⟨N, 1, tp, fun i => [.ptr K (i + 1) 0 sz 0], none⟩
  | f + 1 => ⟨if f < N then 1 else 0, sz, ty, fun j => if j = 0 then get f else [], none⟩
section
variable {K N : Nat} {tp ty : TypeId}
theorem lt_ite {f N : Nat} : (0 < if f < N then 1 else 0) = (f < N) := by
  apply propext
  split <;> simp_all
theorem loadP_T0 {q : TypeId} {sz' : Nat} : loadP P q 0 i sz' k (some (famT K N sz tp ty get)) = effL [i < N, sz' = 1] (ofC (layT P q) ([AV.ptr K (i + 1) 0 sz 0].drop k)) := by
  rw [← ofCells_eq]
  unfold loadP
  dsimp only [famT]
  cases ofCells P q ([AV.ptr K (i + 1) 0 sz 0].drop k) <;> rfl
theorem loadP_TS {q : TypeId} {sz' : Nat} : loadP P q (f + 1) 0 sz' k (some (famT K N sz tp ty get)) = effL [f < N, sz' = sz] (ofC (layT P q) ((get f).drop k)) := by
  rw [← ofCells_eq]
  unfold loadP
  dsimp only [famT]
  rw [lt_ite]
  simp only [if_true]
  cases ofCells P q ((get f).drop k) <;> rfl
theorem updAt_T : updAt (famT K N sz tp ty get) (f + 1) 0 k l = famT K N sz tp ty (fun f' => if f' = f then putCells (get f) k l else get f') := by
  funext q
  unfold updAt
  cases q with
  | zero => simp [famT]
  | succ q =>
    simp only [Nat.add_right_cancel_iff]
    by_cases h : q = f
    · subst h
      simp only [famT, if_true]
      congr 1
      funext j
      by_cases e : j = 0 <;> simp [e]
    · simp [famT, h]
theorem storeP_TS {sz' : Nat} : storeP r (f + 1) 0 sz' k l (some (famT K N sz tp ty get)) = if k + l.length ≤ sz' then some ⟨[f < N, sz' = sz], .v undef, .set r (famT K N sz tp ty (fun f' => if f' = f then putCells (get f) k l else get f'))⟩ else none := by
  unfold storeP
  dsimp only
  rw [updAt_T]
  simp only [famT, lt_ite, gOb]
theorem famE_T : famE (famT K N sz tp ty get) (f + 1) 0 cs = famT K N sz tp ty (fun f' => if f' = f then cs else get f') := by
  funext q
  unfold famE
  cases q with
  | zero => simp [famT]
  | succ q =>
    simp only [Nat.add_right_cancel_iff]
    by_cases h : q = f
    · subst h
      simp only [famT, if_true]
      congr 1
      funext j
      by_cases e : j = 0 <;> simp [e]
    · simp [famT, h]
theorem famE_N {N : Nat} : famE (famN N sz ty get none) 0 i cs = famN N sz ty (fun j => if j = i then cs else get j) none := by
  funext q
  unfold famE famN
  by_cases h : q = 0 <;> simp [h]
/-! ### What a callee sees of an element that is pointed at -/
noncomputable def purUP (d f i k : Nat) (m : Mem) (x : Option Fam) : AV := match x with
  | some fam => .rop ((((fam f).get i).drop k).map (purU d m))
  | none => .any
theorem purU_ptr {sz : Nat} : purU (d + 1) m (.ptr r f i sz k) = purUP d f i k m (look m r) := (rfl)
theorem purUP_E : purUP d f i k m (some (famE fam f i cs)) = .rop (purUL d m (cs.drop k)) := by
  rw [← purUL_eq]; unfold purUP; dsimp only; rw [famE_get]
theorem purUP_E2 {f' j : Nat} (h : f' ≠ f) : purUP d f' j k m (some (famE fam f i cs)) = purUP d f' j k m (some fam) := by
  unfold purUP; dsimp only; rw [famE_off h]
theorem purUP_TS : purUP d (f + 1) 0 k m (some (famT K N sz tp ty get)) = .rop (purUL d m ((get f).drop k)) := by rw [← purUL_eq]; rfl
theorem purUP_N {N : Nat} : purUP d 0 i k m (some (famN N sz ty get g)) = .rop (purUL d m ((get i).drop k)) := by rw [← purUL_eq]; rfl
def pgsP (d f i sz k : Nat) (m : Mem) (x : Option Fam) : List Prop := match x with
  | some fam => gOb (fam f).g ((i < (fam f).n) :: (sz = (fam f).sz) :: (((fam f).get i).drop k).flatMap (pgs d m))
  | none => []
theorem pgs_ptr {sz : Nat} : pgs (d + 1) m (.ptr r f i sz k) = pgsP d f i sz k m (look m r) := (rfl)
theorem pgsP_E {sz : Nat} : pgsP d f i sz k m (some (famE fam f i cs)) = gOb (fam f).g ((i < (fam f).n) :: (sz = (fam f).sz) :: pgsL d m (cs.drop k)) := by
  rw [← pgsL_eq]; unfold pgsP; dsimp only; rw [famE_get, famE_n, famE_sz, famE_g]
theorem pgsP_E2 {f' j sz : Nat} (h : f' ≠ f) : pgsP d f' j sz k m (some (famE fam f i cs)) = pgsP d f' j sz k m (some fam) := by
  unfold pgsP; dsimp only; rw [famE_off h]
theorem pgsP_TS {sz' : Nat} : pgsP d (f + 1) 0 sz' k m (some (famT K N sz tp ty get)) = (f < N) :: (sz' = sz) :: pgsL d m ((get f).drop k) := by
  rw [← pgsL_eq]; unfold pgsP; dsimp only [famT]; rw [lt_ite]; rfl
theorem pgsP_N {N sz' : Nat} : pgsP d 0 i sz' k m (some (famN N sz ty get g)) = gOb g ((i < N) :: (sz' = sz) :: pgsL d m ((get i).drop k)) := by rw [← pgsL_eq]; rfl
end
end
end Go.Ax
end
