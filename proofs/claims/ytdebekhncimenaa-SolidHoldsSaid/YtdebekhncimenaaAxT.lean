/-
  What the evaluator asks about the types of the program. Printed by gentypes.py.
-/
import Derived.Test.YtdebekhncimenaaRows
import Derived.Test.YtdebekhncimenaaAxN
import Derived.KernelRfl
set_option maxRecDepth 100000
namespace Go.Proofs
open Go.Ax
theorem Try.lay1 : layT Try.prog 1 = some (false, 1) := by kernel_rfl
theorem Try.siz1 : sizeT Try.prog 1 = 1 := by kernel_rfl
theorem Try.inf1 : (Try.prog.info? 1).isSome = true := by kernel_rfl
theorem Try.zer1 : zeroT Try.prog 1 = some (.nilFunc) := by kernel_rfl
theorem Try.cnc1 : concreteT Try.prog 1 = true := by kernel_rfl
theorem Try.lay2 : layT Try.prog 2 = some (false, 1) := by kernel_rfl
theorem Try.siz2 : sizeT Try.prog 2 = 1 := by kernel_rfl
theorem Try.inf2 : (Try.prog.info? 2).isSome = true := by kernel_rfl
theorem Try.zer2 : zeroT Try.prog 2 = some (.int .i64 0) := by kernel_rfl
theorem Try.cnc2 : concreteT Try.prog 2 = true := by kernel_rfl
theorem Try.lay3 : layT Try.prog 3 = some (false, 1) := by kernel_rfl
theorem Try.siz3 : sizeT Try.prog 3 = 1 := by kernel_rfl
theorem Try.inf3 : (Try.prog.info? 3).isSome = true := by kernel_rfl
theorem Try.zer3 : zeroT Try.prog 3 = some (.int .i64 0) := by kernel_rfl
theorem Try.cnc3 : concreteT Try.prog 3 = true := by kernel_rfl
theorem Try.lay4 : layT Try.prog 4 = some (false, 1) := by kernel_rfl
theorem Try.siz4 : sizeT Try.prog 4 = 1 := by kernel_rfl
theorem Try.inf4 : (Try.prog.info? 4).isSome = true := by kernel_rfl
theorem Try.zer4 : zeroT Try.prog 4 = some (.bool false) := by kernel_rfl
theorem Try.cnc4 : concreteT Try.prog 4 = true := by kernel_rfl
theorem Try.lay5 : layT Try.prog 5 = some (false, 1) := by kernel_rfl
theorem Try.siz5 : sizeT Try.prog 5 = 1 := by kernel_rfl
theorem Try.inf5 : (Try.prog.info? 5).isSome = true := by kernel_rfl
theorem Try.zer5 : zeroT Try.prog 5 = some (.int .u8 0) := by kernel_rfl
theorem Try.cnc5 : concreteT Try.prog 5 = true := by kernel_rfl
theorem Try.lay6 : layT Try.prog 6 = some (false, 1) := by kernel_rfl
theorem Try.siz6 : sizeT Try.prog 6 = 1 := by kernel_rfl
theorem Try.inf6 : (Try.prog.info? 6).isSome = true := by kernel_rfl
theorem Try.zer6 : zeroT Try.prog 6 = some (.int .u8 0) := by kernel_rfl
theorem Try.cnc6 : concreteT Try.prog 6 = true := by kernel_rfl
theorem Try.lay8 : layT Try.prog 8 = some (true, 4) := by kernel_rfl
theorem Try.siz8 : sizeT Try.prog 8 = 4 := by kernel_rfl
theorem Try.inf8 : (Try.prog.info? 8).isSome = true := by kernel_rfl
theorem Try.zer8 : zeroT Try.prog 8 = some (.agg #[.int .i64 0, .int .i64 0, .bool false, .int .u8 0]) := by kernel_rfl
theorem Try.cnc8 : concreteT Try.prog 8 = true := by kernel_rfl
theorem Try.off8_0 : fOff Try.prog 8 0 = some 0 := by kernel_rfl
theorem Try.fty8_0 : fTy Try.prog 8 0 = some 2 := by kernel_rfl
theorem Try.off8_1 : fOff Try.prog 8 1 = some 1 := by kernel_rfl
theorem Try.fty8_1 : fTy Try.prog 8 1 = some 3 := by kernel_rfl
theorem Try.off8_2 : fOff Try.prog 8 2 = some 2 := by kernel_rfl
theorem Try.fty8_2 : fTy Try.prog 8 2 = some 4 := by kernel_rfl
theorem Try.off8_3 : fOff Try.prog 8 3 = some 3 := by kernel_rfl
theorem Try.fty8_3 : fTy Try.prog 8 3 = some 6 := by kernel_rfl
theorem Try.plc8 : bPlaces Try.prog 8 = some [(0, 1), (1, 1), (2, 1), (3, 1)] := by kernel_rfl
theorem Try.lay23 : layT Try.prog 23 = some (true, 4) := by kernel_rfl
theorem Try.siz23 : sizeT Try.prog 23 = 4 := by kernel_rfl
theorem Try.inf23 : (Try.prog.info? 23).isSome = true := by kernel_rfl
theorem Try.zer23 : zeroT Try.prog 23 = some (.agg #[.int .i64 0, .int .i64 0, .int .i64 0, .int .i64 0]) := by kernel_rfl
theorem Try.cnc23 : concreteT Try.prog 23 = true := by kernel_rfl
theorem Try.off23_0 : fOff Try.prog 23 0 = some 0 := by kernel_rfl
theorem Try.fty23_0 : fTy Try.prog 23 0 = some 2 := by kernel_rfl
theorem Try.off23_1 : fOff Try.prog 23 1 = some 1 := by kernel_rfl
theorem Try.fty23_1 : fTy Try.prog 23 1 = some 2 := by kernel_rfl
theorem Try.off23_2 : fOff Try.prog 23 2 = some 2 := by kernel_rfl
theorem Try.fty23_2 : fTy Try.prog 23 2 = some 2 := by kernel_rfl
theorem Try.off23_3 : fOff Try.prog 23 3 = some 3 := by kernel_rfl
theorem Try.fty23_3 : fTy Try.prog 23 3 = some 2 := by kernel_rfl
theorem Try.plc23 : bPlaces Try.prog 23 = some [(0, 1), (1, 1), (2, 1), (3, 1)] := by kernel_rfl
theorem Try.lay25 : layT Try.prog 25 = some (true, 2) := by kernel_rfl
theorem Try.siz25 : sizeT Try.prog 25 = 2 := by kernel_rfl
theorem Try.inf25 : (Try.prog.info? 25).isSome = true := by kernel_rfl
theorem Try.zer25 : zeroT Try.prog 25 = some (.agg #[.int .i64 0, .int .i64 0]) := by kernel_rfl
theorem Try.cnc25 : concreteT Try.prog 25 = true := by kernel_rfl
theorem Try.off25_0 : fOff Try.prog 25 0 = some 0 := by kernel_rfl
theorem Try.fty25_0 : fTy Try.prog 25 0 = some 2 := by kernel_rfl
theorem Try.off25_1 : fOff Try.prog 25 1 = some 1 := by kernel_rfl
theorem Try.fty25_1 : fTy Try.prog 25 1 = some 2 := by kernel_rfl
theorem Try.plc25 : bPlaces Try.prog 25 = some [(0, 1), (1, 1)] := by kernel_rfl
theorem Try.lay26 : layT Try.prog 26 = some (false, 1) := by kernel_rfl
theorem Try.siz26 : sizeT Try.prog 26 = 1 := by kernel_rfl
theorem Try.inf26 : (Try.prog.info? 26).isSome = true := by kernel_rfl
theorem Try.zer26 : zeroT Try.prog 26 = some (.slice none 0 0) := by kernel_rfl
theorem Try.cnc26 : concreteT Try.prog 26 = true := by kernel_rfl
theorem Try.sel26 : sElem Try.prog 26 = some 23 := by kernel_rfl
theorem Try.lay28 : layT Try.prog 28 = some (false, 1) := by kernel_rfl
theorem Try.siz28 : sizeT Try.prog 28 = 1 := by kernel_rfl
theorem Try.inf28 : (Try.prog.info? 28).isSome = true := by kernel_rfl
theorem Try.zer28 : zeroT Try.prog 28 = some (.int .i64 0) := by kernel_rfl
theorem Try.cnc28 : concreteT Try.prog 28 = true := by kernel_rfl
theorem Try.lay35 : layT Try.prog 35 = some (true, 4) := by kernel_rfl
theorem Try.siz35 : sizeT Try.prog 35 = 4 := by kernel_rfl
theorem Try.inf35 : (Try.prog.info? 35).isSome = true := by kernel_rfl
theorem Try.zer35 : zeroT Try.prog 35 = some (.agg #[.int .i64 0, .int .i64 0, .int .i64 0, .int .i64 0]) := by kernel_rfl
theorem Try.cnc35 : concreteT Try.prog 35 = true := by kernel_rfl
theorem Try.plc35 : bPlaces Try.prog 35 = some [(0, 1), (1, 1), (2, 1), (3, 1)] := by kernel_rfl
theorem Try.ael35 : aElem Try.prog 35 = some (4, 2) := by kernel_rfl
theorem Try.lay39 : layT Try.prog 39 = some (false, 1) := by kernel_rfl
theorem Try.siz39 : sizeT Try.prog 39 = 1 := by kernel_rfl
theorem Try.inf39 : (Try.prog.info? 39).isSome = true := by kernel_rfl
theorem Try.zer39 : zeroT Try.prog 39 = some (.slice none 0 0) := by kernel_rfl
theorem Try.cnc39 : concreteT Try.prog 39 = true := by kernel_rfl
theorem Try.sel39 : sElem Try.prog 39 = some 25 := by kernel_rfl
theorem Try.lay46 : layT Try.prog 46 = some (true, 5) := by kernel_rfl
theorem Try.siz46 : sizeT Try.prog 46 = 5 := by kernel_rfl
theorem Try.inf46 : (Try.prog.info? 46).isSome = true := by kernel_rfl
theorem Try.zer46 : zeroT Try.prog 46 = some (.agg #[.int .i64 0, .int .i64 0, .int .i64 0, .int .i64 0, .slice none 0 0]) := by kernel_rfl
theorem Try.cnc46 : concreteT Try.prog 46 = true := by kernel_rfl
theorem Try.off46_0 : fOff Try.prog 46 0 = some 0 := by kernel_rfl
theorem Try.fty46_0 : fTy Try.prog 46 0 = some 3 := by kernel_rfl
theorem Try.off46_1 : fOff Try.prog 46 1 = some 1 := by kernel_rfl
theorem Try.fty46_1 : fTy Try.prog 46 1 = some 25 := by kernel_rfl
theorem Try.off46_2 : fOff Try.prog 46 2 = some 3 := by kernel_rfl
theorem Try.fty46_2 : fTy Try.prog 46 2 = some 2 := by kernel_rfl
theorem Try.off46_3 : fOff Try.prog 46 3 = some 4 := by kernel_rfl
theorem Try.fty46_3 : fTy Try.prog 46 3 = some 39 := by kernel_rfl
theorem Try.plc46 : bPlaces Try.prog 46 = some [(0, 1), (1, 2), (3, 1), (4, 1)] := by kernel_rfl
theorem Try.lay53 : layT Try.prog 53 = some (true, 6) := by kernel_rfl
theorem Try.siz53 : sizeT Try.prog 53 = 6 := by kernel_rfl
theorem Try.inf53 : (Try.prog.info? 53).isSome = true := by kernel_rfl
theorem Try.zer53 : zeroT Try.prog 53 = some (.agg #[.int .i64 0, .int .i64 0, .int .i64 0, .int .i64 0, .int .i64 0, .int .i64 0]) := by kernel_rfl
theorem Try.cnc53 : concreteT Try.prog 53 = true := by kernel_rfl
theorem Try.off53_0 : fOff Try.prog 53 0 = some 0 := by kernel_rfl
theorem Try.fty53_0 : fTy Try.prog 53 0 = some 3 := by kernel_rfl
theorem Try.off53_1 : fOff Try.prog 53 1 = some 1 := by kernel_rfl
theorem Try.fty53_1 : fTy Try.prog 53 1 = some 3 := by kernel_rfl
theorem Try.off53_2 : fOff Try.prog 53 2 = some 2 := by kernel_rfl
theorem Try.fty53_2 : fTy Try.prog 53 2 = some 3 := by kernel_rfl
theorem Try.off53_3 : fOff Try.prog 53 3 = some 3 := by kernel_rfl
theorem Try.fty53_3 : fTy Try.prog 53 3 = some 2 := by kernel_rfl
theorem Try.off53_4 : fOff Try.prog 53 4 = some 4 := by kernel_rfl
theorem Try.fty53_4 : fTy Try.prog 53 4 = some 2 := by kernel_rfl
theorem Try.off53_5 : fOff Try.prog 53 5 = some 5 := by kernel_rfl
theorem Try.fty53_5 : fTy Try.prog 53 5 = some 2 := by kernel_rfl
theorem Try.plc53 : bPlaces Try.prog 53 = some [(0, 1), (1, 1), (2, 1), (3, 1), (4, 1), (5, 1)] := by kernel_rfl
theorem Try.lay63 : layT Try.prog 63 = some (false, 1) := by kernel_rfl
theorem Try.siz63 : sizeT Try.prog 63 = 1 := by kernel_rfl
theorem Try.inf63 : (Try.prog.info? 63).isSome = true := by kernel_rfl
theorem Try.zer63 : zeroT Try.prog 63 = some (.nilFunc) := by kernel_rfl
theorem Try.cnc63 : concreteT Try.prog 63 = true := by kernel_rfl
theorem Try.lay64 : layT Try.prog 64 = some (false, 1) := by kernel_rfl
theorem Try.siz64 : sizeT Try.prog 64 = 1 := by kernel_rfl
theorem Try.inf64 : (Try.prog.info? 64).isSome = true := by kernel_rfl
theorem Try.zer64 : zeroT Try.prog 64 = some (.nilFunc) := by kernel_rfl
theorem Try.cnc64 : concreteT Try.prog 64 = true := by kernel_rfl
theorem Try.lay66 : layT Try.prog 66 = some (true, 1) := by kernel_rfl
theorem Try.siz66 : sizeT Try.prog 66 = 1 := by kernel_rfl
theorem Try.inf66 : (Try.prog.info? 66).isSome = true := by kernel_rfl
theorem Try.zer66 : zeroT Try.prog 66 = some (.agg #[.slice none 0 0]) := by kernel_rfl
theorem Try.cnc66 : concreteT Try.prog 66 = true := by kernel_rfl
theorem Try.off66_0 : fOff Try.prog 66 0 = some 0 := by kernel_rfl
theorem Try.fty66_0 : fTy Try.prog 66 0 = some 39 := by kernel_rfl
theorem Try.plc66 : bPlaces Try.prog 66 = some [(0, 1)] := by kernel_rfl
theorem Try.lay69 : layT Try.prog 69 = some (false, 1) := by kernel_rfl
theorem Try.siz69 : sizeT Try.prog 69 = 1 := by kernel_rfl
theorem Try.inf69 : (Try.prog.info? 69).isSome = true := by kernel_rfl
theorem Try.zer69 : zeroT Try.prog 69 = some (.nilIface) := by kernel_rfl
theorem Try.cnc69 : concreteT Try.prog 69 = false := by kernel_rfl
theorem Try.lay76 : layT Try.prog 76 = some (true, 5) := by kernel_rfl
theorem Try.siz76 : sizeT Try.prog 76 = 5 := by kernel_rfl
theorem Try.inf76 : (Try.prog.info? 76).isSome = true := by kernel_rfl
theorem Try.zer76 : zeroT Try.prog 76 = some (.agg #[.int .i64 0, .int .i64 0, .int .i64 0, .int .i64 0, .slice none 0 0]) := by kernel_rfl
theorem Try.cnc76 : concreteT Try.prog 76 = true := by kernel_rfl
theorem Try.off76_0 : fOff Try.prog 76 0 = some 0 := by kernel_rfl
theorem Try.fty76_0 : fTy Try.prog 76 0 = some 3 := by kernel_rfl
theorem Try.off76_1 : fOff Try.prog 76 1 = some 1 := by kernel_rfl
theorem Try.fty76_1 : fTy Try.prog 76 1 = some 2 := by kernel_rfl
theorem Try.off76_2 : fOff Try.prog 76 2 = some 2 := by kernel_rfl
theorem Try.fty76_2 : fTy Try.prog 76 2 = some 2 := by kernel_rfl
theorem Try.off76_3 : fOff Try.prog 76 3 = some 3 := by kernel_rfl
theorem Try.fty76_3 : fTy Try.prog 76 3 = some 2 := by kernel_rfl
theorem Try.off76_4 : fOff Try.prog 76 4 = some 4 := by kernel_rfl
theorem Try.fty76_4 : fTy Try.prog 76 4 = some 39 := by kernel_rfl
theorem Try.plc76 : bPlaces Try.prog 76 = some [(0, 1), (1, 1), (2, 1), (3, 1), (4, 1)] := by kernel_rfl
theorem Try.lay79 : layT Try.prog 79 = some (true, 2) := by kernel_rfl
theorem Try.siz79 : sizeT Try.prog 79 = 2 := by kernel_rfl
theorem Try.inf79 : (Try.prog.info? 79).isSome = true := by kernel_rfl
theorem Try.zer79 : zeroT Try.prog 79 = some (.agg #[.int .i64 0, .bool false]) := by kernel_rfl
theorem Try.cnc79 : concreteT Try.prog 79 = true := by kernel_rfl
theorem Try.off79_0 : fOff Try.prog 79 0 = some 0 := by kernel_rfl
theorem Try.fty79_0 : fTy Try.prog 79 0 = some 2 := by kernel_rfl
theorem Try.off79_1 : fOff Try.prog 79 1 = some 1 := by kernel_rfl
theorem Try.fty79_1 : fTy Try.prog 79 1 = some 4 := by kernel_rfl
theorem Try.plc79 : bPlaces Try.prog 79 = some [(0, 1), (1, 1)] := by kernel_rfl
theorem Try.lay81 : layT Try.prog 81 = some (true, 4) := by kernel_rfl
theorem Try.siz81 : sizeT Try.prog 81 = 4 := by kernel_rfl
theorem Try.inf81 : (Try.prog.info? 81).isSome = true := by kernel_rfl
theorem Try.zer81 : zeroT Try.prog 81 = some (.agg #[.int .i64 0, .bool false, .int .i64 0, .bool false]) := by kernel_rfl
theorem Try.cnc81 : concreteT Try.prog 81 = true := by kernel_rfl
theorem Try.off81_0 : fOff Try.prog 81 0 = some 0 := by kernel_rfl
theorem Try.fty81_0 : fTy Try.prog 81 0 = some 79 := by kernel_rfl
theorem Try.off81_1 : fOff Try.prog 81 1 = some 2 := by kernel_rfl
theorem Try.fty81_1 : fTy Try.prog 81 1 = some 79 := by kernel_rfl
theorem Try.plc81 : bPlaces Try.prog 81 = some [(0, 2), (2, 2)] := by kernel_rfl
theorem Try.lay83 : layT Try.prog 83 = some (true, 4) := by kernel_rfl
theorem Try.siz83 : sizeT Try.prog 83 = 4 := by kernel_rfl
theorem Try.inf83 : (Try.prog.info? 83).isSome = true := by kernel_rfl
theorem Try.zer83 : zeroT Try.prog 83 = some (.agg #[.int .i64 0, .bool false, .int .i64 0, .bool false]) := by kernel_rfl
theorem Try.cnc83 : concreteT Try.prog 83 = true := by kernel_rfl
theorem Try.off83_0 : fOff Try.prog 83 0 = some 0 := by kernel_rfl
theorem Try.fty83_0 : fTy Try.prog 83 0 = some 79 := by kernel_rfl
theorem Try.off83_1 : fOff Try.prog 83 1 = some 2 := by kernel_rfl
theorem Try.fty83_1 : fTy Try.prog 83 1 = some 79 := by kernel_rfl
theorem Try.plc83 : bPlaces Try.prog 83 = some [(0, 2), (2, 2)] := by kernel_rfl
theorem Try.lay85 : layT Try.prog 85 = some (true, 8) := by kernel_rfl
theorem Try.siz85 : sizeT Try.prog 85 = 8 := by kernel_rfl
theorem Try.inf85 : (Try.prog.info? 85).isSome = true := by kernel_rfl
theorem Try.zer85 : zeroT Try.prog 85 = some (.agg #[.int .i64 0, .bool false, .int .i64 0, .bool false, .int .i64 0, .bool false, .int .i64 0, .bool false]) := by kernel_rfl
theorem Try.cnc85 : concreteT Try.prog 85 = true := by kernel_rfl
theorem Try.off85_0 : fOff Try.prog 85 0 = some 0 := by kernel_rfl
theorem Try.fty85_0 : fTy Try.prog 85 0 = some 81 := by kernel_rfl
theorem Try.off85_1 : fOff Try.prog 85 1 = some 4 := by kernel_rfl
theorem Try.fty85_1 : fTy Try.prog 85 1 = some 83 := by kernel_rfl
theorem Try.plc85 : bPlaces Try.prog 85 = some [(0, 4), (4, 4)] := by kernel_rfl
theorem Try.lay90 : layT Try.prog 90 = some (false, 1) := by kernel_rfl
theorem Try.siz90 : sizeT Try.prog 90 = 1 := by kernel_rfl
theorem Try.inf90 : (Try.prog.info? 90).isSome = true := by kernel_rfl
theorem Try.zer90 : zeroT Try.prog 90 = some (.nilFunc) := by kernel_rfl
theorem Try.cnc90 : concreteT Try.prog 90 = true := by kernel_rfl
theorem Try.lay92 : layT Try.prog 92 = some (true, 3) := by kernel_rfl
theorem Try.siz92 : sizeT Try.prog 92 = 3 := by kernel_rfl
theorem Try.inf92 : (Try.prog.info? 92).isSome = true := by kernel_rfl
theorem Try.zer92 : zeroT Try.prog 92 = some (.agg #[.int .i64 0, .int .i64 0, .int .i64 0]) := by kernel_rfl
theorem Try.cnc92 : concreteT Try.prog 92 = true := by kernel_rfl
theorem Try.off92_0 : fOff Try.prog 92 0 = some 0 := by kernel_rfl
theorem Try.fty92_0 : fTy Try.prog 92 0 = some 25 := by kernel_rfl
theorem Try.off92_1 : fOff Try.prog 92 1 = some 2 := by kernel_rfl
theorem Try.fty92_1 : fTy Try.prog 92 1 = some 2 := by kernel_rfl
theorem Try.plc92 : bPlaces Try.prog 92 = some [(0, 2), (2, 1)] := by kernel_rfl
theorem Try.lay113 : layT Try.prog 113 = some (false, 1) := by kernel_rfl
theorem Try.siz113 : sizeT Try.prog 113 = 1 := by kernel_rfl
theorem Try.inf113 : (Try.prog.info? 113).isSome = true := by kernel_rfl
theorem Try.zer113 : zeroT Try.prog 113 = some (.int .u64 0) := by kernel_rfl
theorem Try.cnc113 : concreteT Try.prog 113 = true := by kernel_rfl
theorem Try.lay119 : layT Try.prog 119 = some (false, 1) := by kernel_rfl
theorem Try.siz119 : sizeT Try.prog 119 = 1 := by kernel_rfl
theorem Try.inf119 : (Try.prog.info? 119).isSome = true := by kernel_rfl
theorem Try.zer119 : zeroT Try.prog 119 = some (.int .u64 0) := by kernel_rfl
theorem Try.cnc119 : concreteT Try.prog 119 = true := by kernel_rfl
theorem Try.lay121 : layT Try.prog 121 = some (true, 3) := by kernel_rfl
theorem Try.siz121 : sizeT Try.prog 121 = 3 := by kernel_rfl
theorem Try.inf121 : (Try.prog.info? 121).isSome = true := by kernel_rfl
theorem Try.zer121 : zeroT Try.prog 121 = some (.agg #[.bool false, .int .u64 0, .int .u64 0]) := by kernel_rfl
theorem Try.cnc121 : concreteT Try.prog 121 = true := by kernel_rfl
theorem Try.off121_0 : fOff Try.prog 121 0 = some 0 := by kernel_rfl
theorem Try.fty121_0 : fTy Try.prog 121 0 = some 4 := by kernel_rfl
theorem Try.off121_1 : fOff Try.prog 121 1 = some 1 := by kernel_rfl
theorem Try.fty121_1 : fTy Try.prog 121 1 = some 119 := by kernel_rfl
theorem Try.off121_2 : fOff Try.prog 121 2 = some 2 := by kernel_rfl
theorem Try.fty121_2 : fTy Try.prog 121 2 = some 119 := by kernel_rfl
theorem Try.plc121 : bPlaces Try.prog 121 = some [(0, 1), (1, 1), (2, 1)] := by kernel_rfl
theorem Try.lay127 : layT Try.prog 127 = some (false, 1) := by kernel_rfl
theorem Try.siz127 : sizeT Try.prog 127 = 1 := by kernel_rfl
theorem Try.inf127 : (Try.prog.info? 127).isSome = true := by kernel_rfl
theorem Try.zer127 : zeroT Try.prog 127 = some (.slice none 0 0) := by kernel_rfl
theorem Try.cnc127 : concreteT Try.prog 127 = true := by kernel_rfl
theorem Try.sel127 : sElem Try.prog 127 = some 81 := by kernel_rfl
theorem Try.lay128 : layT Try.prog 128 = some (false, 1) := by kernel_rfl
theorem Try.siz128 : sizeT Try.prog 128 = 1 := by kernel_rfl
theorem Try.inf128 : (Try.prog.info? 128).isSome = true := by kernel_rfl
theorem Try.zer128 : zeroT Try.prog 128 = some (.slice none 0 0) := by kernel_rfl
theorem Try.cnc128 : concreteT Try.prog 128 = true := by kernel_rfl
theorem Try.sel128 : sElem Try.prog 128 = some 79 := by kernel_rfl
theorem Try.lay133 : layT Try.prog 133 = some (true, 2) := by kernel_rfl
theorem Try.siz133 : sizeT Try.prog 133 = 2 := by kernel_rfl
theorem Try.inf133 : (Try.prog.info? 133).isSome = true := by kernel_rfl
theorem Try.zer133 : zeroT Try.prog 133 = some (.agg #[.int .u64 0, .int .u64 0]) := by kernel_rfl
theorem Try.cnc133 : concreteT Try.prog 133 = true := by kernel_rfl
theorem Try.plc133 : bPlaces Try.prog 133 = some [(0, 1), (1, 1)] := by kernel_rfl
theorem Try.ael133 : aElem Try.prog 133 = some (2, 119) := by kernel_rfl
theorem Try.lay135 : layT Try.prog 135 = some (true, 3) := by kernel_rfl
theorem Try.siz135 : sizeT Try.prog 135 = 3 := by kernel_rfl
theorem Try.inf135 : (Try.prog.info? 135).isSome = true := by kernel_rfl
theorem Try.zer135 : zeroT Try.prog 135 = some (.agg #[.bool false, .int .u64 0, .int .u64 0]) := by kernel_rfl
theorem Try.cnc135 : concreteT Try.prog 135 = true := by kernel_rfl
theorem Try.off135_0 : fOff Try.prog 135 0 = some 0 := by kernel_rfl
theorem Try.fty135_0 : fTy Try.prog 135 0 = some 4 := by kernel_rfl
theorem Try.off135_1 : fOff Try.prog 135 1 = some 1 := by kernel_rfl
theorem Try.fty135_1 : fTy Try.prog 135 1 = some 133 := by kernel_rfl
theorem Try.plc135 : bPlaces Try.prog 135 = some [(0, 1), (1, 2)] := by kernel_rfl
theorem Try.lay147 : layT Try.prog 147 = some (false, 1) := by kernel_rfl
theorem Try.siz147 : sizeT Try.prog 147 = 1 := by kernel_rfl
theorem Try.inf147 : (Try.prog.info? 147).isSome = true := by kernel_rfl
theorem Try.zer147 : zeroT Try.prog 147 = some (.slice none 0 0) := by kernel_rfl
theorem Try.cnc147 : concreteT Try.prog 147 = true := by kernel_rfl
theorem Try.sel147 : sElem Try.prog 147 = some 3 := by kernel_rfl
end Go.Proofs
