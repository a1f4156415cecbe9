/- What the program's functions are called here; where loops stand. Printed by wip/gen. -/
import Derived.Test.YthnfcjbglfkhlaaSimLim
import Derived.Test.YthnfcjbglfkhlaaChecked
namespace Go.Proofs.YthnfcjbglfkhlaaSim
open Go Go.Proofs
open Go.Proofs.Try (prog)
set_option linter.unusedVariables false
set_option linter.unusedSimpArgs false
set_option maxRecDepth 100000

noncomputable def cfg : Cfg where
  hints := [
  ((24, 6), { slots := [(0, .keep), (1, .keep), (2, .keep), (4, .keep)], cells := [(1, 0, (.own (.int .u8))), (2, 0, (.ro (.int .u8)))], objs := 5, obase := 5, tag := 0 }),
  ((24, 6), { slots := [], cells := [(1, 0, (.own (.int .u8))), (2, 0, (.ro (.int .u8)))], objs := 5, obase := 5, tag := 2 }),
  ((12, 60), { slots := [(3, .keep), (4, (.own (.int .u8)))], cells := [], objs := 0, obase := 0, tag := 0 }),
  ((12, 60), { slots := [(3, .keep), (4, (.own (.int .u8)))], cells := [], objs := 0, obase := 0, tag := 2 }),
  ((14, 58), { slots := [(0, (.ro (.int .u8))), (3, (.own (.int .i64))), (4, .keep)], cells := [], objs := 0, obase := 0, tag := 0 }),
  ((14, 7462), { slots := [(0, (.ro (.int .u8))), (3, (.own (.int .i64))), (4, .keep), (5, .keep), (6, .keep), (14, (.ro (.int .u8))), (15, .keep), (16, .keep), (17, .keep), (18, .keep)], cells := [], objs := 0, obase := 0, tag := 0 }),
  ((14, 7462), { slots := [(0, (.ro (.int .u8))), (3, (.own (.int .i64))), (4, .keep), (14, (.ro (.int .u8))), (15, .keep), (16, .keep), (17, .keep), (18, .keep)], cells := [], objs := 0, obase := 0, tag := 4 }),
  ((14, 58), { slots := [(3, (.own (.int .i64)))], cells := [], objs := 0, obase := 0, tag := 2 }),
  ((14, 250), { slots := [(3, (.own (.int .i64))), (7, (.own (.int .u8))), (8, .keep)], cells := [], objs := 0, obase := 0, tag := 0 }),
  ((14, 250), { slots := [(7, (.own (.int .u8)))], cells := [], objs := 0, obase := 0, tag := 6 }),
  ((24, 6), { slots := [(0, .keep), (1, .keep), (2, .keep), (4, .keep)], cells := [(0, 0, (.own (.int .u8))), (1, 0, (.ro (.int .u8)))], objs := 4, obase := 4, tag := 0 }),
  ((24, 6), { slots := [], cells := [(0, 0, (.own (.int .u8))), (1, 0, (.ro (.int .u8)))], objs := 4, obase := 4, tag := 2 }),
  ((19, 28), { slots := [(3, (.own (.int .i64)))], cells := [], objs := 0, obase := 0, tag := 0 }),
  ((19, 28), { slots := [(3, (.own (.int .i64)))], cells := [], objs := 0, obase := 0, tag := 2 }),
  ((19, 250), { slots := [(3, (.own (.int .i64))), (4, .keep), (5, .keep)], cells := [], objs := 0, obase := 0, tag := 0 }),
  ((19, 250), { slots := [(4, .keep)], cells := [], objs := 0, obase := 0, tag := 4 }),
  ((19, 252), { slots := [(4, .keep)], cells := [], objs := 0, obase := 0, tag := 0 }),
  ((19, 252), { slots := [(4, .keep)], cells := [], objs := 0, obase := 0, tag := 6 }),
  ((20, 122), { slots := [(3, (.own (.int .u8))), (4, .keep), (5, .keep), (9, (.ro (.int .u8))), (10, .keep), (11, .keep)], cells := [], objs := 0, obase := 0, tag := 0 }),
  ((20, 122), { slots := [(2, (.own (.int .u8)))], cells := [], objs := 0, obase := 0, tag := 1 }),
  ((20, 122), { slots := [(3, (.own (.int .u8)))], cells := [], objs := 0, obase := 0, tag := 2 }),
  ((21, 26), { slots := [(0, .keep), (3, .keep)], cells := [], objs := 0, obase := 0, tag := 0 }),
  ((21, 26), { slots := [(2, .keep)], cells := [], objs := 0, obase := 0, tag := 1 }),
  ((21, 26), { slots := [], cells := [], objs := 0, obase := 0, tag := 2 }),
  ((22, 58), { slots := [(0, (.ro (.int .i64))), (3, .keep), (4, .keep)], cells := [], objs := 0, obase := 0, tag := 0 }),
  ((22, 58), { slots := [(3, .keep)], cells := [], objs := 0, obase := 0, tag := 2 }),
  ((25, 58), { slots := [(0, (.ro (.int .u8))), (3, .keep), (7, .keep)], cells := [], objs := 0, obase := 0, tag := 0 }),
  ((25, 58), { slots := [(0, (.ro (.int .u8))), (3, .keep)], cells := [], objs := 0, obase := 0, tag := 2 }),
  ((25, 250), { slots := [(5, .keep), (6, .keep)], cells := [], objs := 1, obase := 0, tag := 0 }),
  ((25, 250), { slots := [(5, .keep)], cells := [], objs := 1, obase := 0, tag := 4 }),
  ((26, 58), { slots := [(0, (.ro (.int .u8))), (3, (.own (.int .i64))), (4, .keep)], cells := [], objs := 0, obase := 0, tag := 0 }),
  ((26, 3730), { slots := [(0, (.ro (.int .u8))), (3, (.own (.int .i64))), (4, .keep), (5, .keep)], cells := [], objs := 0, obase := 0, tag := 0 }),
  ((26, 3730), { slots := [(0, (.ro (.int .u8))), (3, (.own (.int .i64))), (4, .keep)], cells := [], objs := 0, obase := 0, tag := 4 }),
  ((26, 58), { slots := [(3, (.own (.int .i64)))], cells := [], objs := 0, obase := 0, tag := 2 })]
  muts := [(25, 38)]
  ros := [(7, 39), (8, 8), (8, 44), (8, 49), (9, 17), (12, 14), (12, 23), (14, 41), (14, 58), (19, 14), (20, 40), (26, 26)]
  keeps := [((9, 122), [4]), ((18, 58), [3])]
  lp := none

noncomputable def tbl : List LE2 := [
  ⟨24, 6, { slots := [(.c (.fix (.yield 4))), (.c (.fix (.ptr 2 0))), (.c (.fix (.ptr 3 0))), .any, (.c (.int .i64)), .any, .any, .any, .any, .any, .any, .any, .any, .any, .any, .any, .any, .any, .any, .any, .any, .any, .any, .any, .any, .any, .any, .any, .any, .any, .any], objs := [(.cells [(.int .i64), (.int .i64)]), (.cells [(.own (.int .u8) 128)]), (.cells [(.ro (.int .u8))]), (.cells [(.int .i64)]), (.loop (loopAt Go.Proofs.Try.prog 9 122 [13] .ready) [.any, .any, .any, .any, (.c (.fix (.ptr 1 0))), .any, .any, .any, .any, .any, .any, .any, .any, .any, .any, .any, .any, .any, .any, .any, .any])], live := [128], next := 129, fid := 24, base := 128, obase := 5, round := none },
    [((.exit 0), { slots := [.any, .any, .any, .any, .any, .any, .any, .any, .any, .any, .any, .any, .any, .any, .any, .any, .any, .any, .any, .any, .any, .any, .any, .any, .any, .any, .any, .any, .any, .any, .any], objs := [(.cells [(.int .i64), (.int .i64)]), (.cells [(.own (.int .u8) 128)]), (.cells [(.ro (.int .u8))]), (.cells [(.int .i64)]), (.loop (loopAt Go.Proofs.Try.prog 9 122 [13] .ready) [.any, .any, .any, .any, (.c (.fix (.ptr 1 0))), .any, .any, .any, .any, .any, .any, .any, .any, .any, .any, .any, .any, .any, .any, .any, .any])], live := [128], next := 129, fid := 24, base := 128, obase := 5, round := none })]⟩,
  ⟨12, 60, { slots := [.any, .any, .any, (.c .str), (.c (.own (.int .u8) 0)), .any, .any, .any, .any, .any, .any, .any, .any, .any, .any, .any, .any, .any, .any, .any, .any, .any, .any, .any, .any, .any], objs := [], live := [0], next := 1, fid := 12, base := 0, obase := 0, round := none },
    [((.exit 0), { slots := [.any, .any, .any, (.c .str), (.c (.own (.int .u8) 0)), .any, .any, .any, .any, .any, .any, .any, .any, .any, .any, .any, .any, .any, .any, .any, .any, .any, .any, .any, .any, .any], objs := [], live := [0], next := 1, fid := 12, base := 0, obase := 0, round := none })]⟩,
  ⟨14, 7462, { slots := [(.c (.ro (.int .u8))), .any, .any, (.c (.own (.int .i64) 0)), (.c (.int .i64)), (.c (.int .i64)), (.c (.int .i64)), .any, .any, .any, .any, .any, .any, .any, (.c (.ro (.int .u8))), (.c (.int .i64)), (.rptr [(.int .u8)]), (.c (.int .u8)), (.c .bool), .any, .any, .any, .any, .any, .any, .any, .any, .any, .any, .any, .any, .any, .any, .any, .any, .any, .any, .any, .any, .any, .any, .any, .any, .any, .any, .any, .any, .any, .any, .any, .any, .any, .any, .any, .any, .any, .any, .any, .any, .any, .any], objs := [], live := [0], next := 1, fid := 14, base := 0, obase := 0, round := none },
    [((.exit 2), { slots := [(.c (.ro (.int .u8))), .any, .any, (.c (.own (.int .i64) 0)), (.c (.int .i64)), .any, .any, .any, .any, .any, .any, .any, .any, .any, (.c (.ro (.int .u8))), (.c (.int .i64)), (.rptr [(.int .u8)]), (.c (.int .u8)), (.c .bool), .any, .any, .any, .any, .any, .any, .any, .any, .any, .any, .any, .any, .any, .any, .any, .any, .any, .any, .any, .any, .any, .any, .any, .any, .any, .any, .any, .any, .any, .any, .any, .any, .any, .any, .any, .any, .any, .any, .any, .any, .any, .any], objs := [], live := [0], next := 1, fid := 14, base := 0, obase := 0, round := none })]⟩,
  ⟨14, 58, { slots := [(.c (.ro (.int .u8))), .any, .any, (.c (.own (.int .i64) 0)), (.c (.int .i64)), .any, .any, .any, .any, .any, .any, .any, .any, .any, .any, .any, .any, .any, .any, .any, .any, .any, .any, .any, .any, .any, .any, .any, .any, .any, .any, .any, .any, .any, .any, .any, .any, .any, .any, .any, .any, .any, .any, .any, .any, .any, .any, .any, .any, .any, .any, .any, .any, .any, .any, .any, .any, .any, .any, .any, .any], objs := [], live := [0], next := 1, fid := 14, base := 0, obase := 0, round := none },
    [((.exit 0), { slots := [.any, .any, .any, (.c (.own (.int .i64) 0)), .any, .any, .any, .any, .any, .any, .any, .any, .any, .any, .any, .any, .any, .any, .any, .any, .any, .any, .any, .any, .any, .any, .any, .any, .any, .any, .any, .any, .any, .any, .any, .any, .any, .any, .any, .any, .any, .any, .any, .any, .any, .any, .any, .any, .any, .any, .any, .any, .any, .any, .any, .any, .any, .any, .any, .any, .any], objs := [], live := [0], next := 1, fid := 14, base := 0, obase := 0, round := none })]⟩,
  ⟨14, 250, { slots := [.any, .any, .any, (.c (.own (.int .i64) 0)), .any, .any, .any, (.c (.own (.int .u8) 1)), (.c (.int .i64)), .any, .any, .any, .any, .any, .any, .any, .any, .any, .any, .any, .any, .any, .any, .any, .any, .any, .any, .any, .any, .any, .any, .any, .any, .any, .any, .any, .any, .any, .any, .any, .any, .any, .any, .any, .any, .any, .any, .any, .any, .any, .any, .any, .any, .any, .any, .any, .any, .any, .any, .any, .any], objs := [], live := [0, 1], next := 2, fid := 14, base := 0, obase := 0, round := none },
    [((.exit 4), { slots := [.any, .any, .any, .any, .any, .any, .any, (.c (.own (.int .u8) 0)), .any, .any, .any, .any, .any, .any, .any, .any, .any, .any, .any, .any, .any, .any, .any, .any, .any, .any, .any, .any, .any, .any, .any, .any, .any, .any, .any, .any, .any, .any, .any, .any, .any, .any, .any, .any, .any, .any, .any, .any, .any, .any, .any, .any, .any, .any, .any, .any, .any, .any, .any, .any, .any], objs := [], live := [0], next := 1, fid := 14, base := 0, obase := 0, round := none })]⟩,
  ⟨24, 6, { slots := [(.c (.fix (.yield 3))), (.c (.fix (.ptr 1 0))), (.c (.fix (.ptr 2 0))), .any, (.c (.int .i64)), .any, .any, .any, .any, .any, .any, .any, .any, .any, .any, .any, .any, .any, .any, .any, .any, .any, .any, .any, .any, .any, .any, .any, .any, .any, .any], objs := [(.cells [(.own (.int .u8) 88)]), (.cells [(.ro (.int .u8))]), (.cells [(.int .i64)]), (.loop (loopAt Go.Proofs.Try.prog 18 58 [7] .ready) [.any, .any, .any, (.c (.fix (.ptr 0 0))), .any, .any, .any, .any, .any, .any, .any, .any, .any])], live := [88], next := 89, fid := 24, base := 88, obase := 4, round := none },
    [((.exit 0), { slots := [.any, .any, .any, .any, .any, .any, .any, .any, .any, .any, .any, .any, .any, .any, .any, .any, .any, .any, .any, .any, .any, .any, .any, .any, .any, .any, .any, .any, .any, .any, .any], objs := [(.cells [(.own (.int .u8) 88)]), (.cells [(.ro (.int .u8))]), (.cells [(.int .i64)]), (.loop (loopAt Go.Proofs.Try.prog 18 58 [7] .ready) [.any, .any, .any, (.c (.fix (.ptr 0 0))), .any, .any, .any, .any, .any, .any, .any, .any, .any])], live := [88], next := 89, fid := 24, base := 88, obase := 4, round := none })]⟩,
  ⟨19, 28, { slots := [.any, .any, .any, (.c (.own (.int .i64) 0)), .any, .any, .any, .any, .any, .any, .any, .any, .any, .any, .any, .any, .any, .any, .any, .any, .any, .any, .any, .any, .any, .any, .any, .any, .any, .any, .any, .any, .any, .any, .any, .any, .any, .any, .any, .any, .any], objs := [], live := [0], next := 1, fid := 19, base := 0, obase := 0, round := none },
    [((.exit 0), { slots := [.any, .any, .any, (.c (.own (.int .i64) 0)), .any, .any, .any, .any, .any, .any, .any, .any, .any, .any, .any, .any, .any, .any, .any, .any, .any, .any, .any, .any, .any, .any, .any, .any, .any, .any, .any, .any, .any, .any, .any, .any, .any, .any, .any, .any, .any], objs := [], live := [0], next := 1, fid := 19, base := 0, obase := 0, round := none })]⟩,
  ⟨19, 250, { slots := [.any, .any, .any, (.c (.own (.int .i64) 0)), (.c .str), (.c (.int .i64)), .any, .any, .any, .any, .any, .any, .any, .any, .any, .any, .any, .any, .any, .any, .any, .any, .any, .any, .any, .any, .any, .any, .any, .any, .any, .any, .any, .any, .any, .any, .any, .any, .any, .any, .any], objs := [], live := [0], next := 1, fid := 19, base := 0, obase := 0, round := none },
    [((.exit 2), { slots := [.any, .any, .any, .any, (.c .str), .any, .any, .any, .any, .any, .any, .any, .any, .any, .any, .any, .any, .any, .any, .any, .any, .any, .any, .any, .any, .any, .any, .any, .any, .any, .any, .any, .any, .any, .any, .any, .any, .any, .any, .any, .any], objs := [], live := [], next := 0, fid := 19, base := 0, obase := 0, round := none })]⟩,
  ⟨19, 252, { slots := [.any, .any, .any, .any, (.c .str), .any, .any, .any, .any, .any, .any, .any, .any, .any, .any, .any, .any, .any, .any, .any, .any, .any, .any, .any, .any, .any, .any, .any, .any, .any, .any, .any, .any, .any, .any, .any, .any, .any, .any, .any, .any], objs := [], live := [], next := 0, fid := 19, base := 0, obase := 0, round := none },
    [((.exit 4), { slots := [.any, .any, .any, .any, (.c .str), .any, .any, .any, .any, .any, .any, .any, .any, .any, .any, .any, .any, .any, .any, .any, .any, .any, .any, .any, .any, .any, .any, .any, .any, .any, .any, .any, .any, .any, .any, .any, .any, .any, .any, .any, .any], objs := [], live := [], next := 0, fid := 19, base := 0, obase := 0, round := none })]⟩,
  ⟨20, 122, { slots := [.any, .any, .any, (.c (.own (.int .u8) 0)), (.c (.int .i64)), (.c (.int .i64)), .any, .any, .any, (.c (.ro (.int .u8))), (.c (.int .i64)), (.c (.int .i64)), .any, .any, .any, .any, .any, .any, .any, .any, .any, .any, .any, .any, .any, .any, .any, .any, .any, .any, .any, .any, .any, .any, .any, .any, .any, .any, .any, .any, .any, .any, .any, .any], objs := [], live := [0], next := 1, fid := 20, base := 0, obase := 0, round := none },
    [(.ret, { slots := [.any, .any, (.c (.own (.int .u8) 0)), .any, .any, .any, .any, .any, .any, .any, .any, .any, .any, .any, .any, .any, .any, .any, .any, .any, .any, .any, .any, .any, .any, .any, .any, .any, .any, .any, .any, .any, .any, .any, .any, .any, .any, .any, .any, .any, .any, .any, .any, .any], objs := [], live := [0], next := 1, fid := 20, base := 0, obase := 0, round := none }), ((.exit 0), { slots := [.any, .any, .any, (.c (.own (.int .u8) 0)), .any, .any, .any, .any, .any, .any, .any, .any, .any, .any, .any, .any, .any, .any, .any, .any, .any, .any, .any, .any, .any, .any, .any, .any, .any, .any, .any, .any, .any, .any, .any, .any, .any, .any, .any, .any, .any, .any, .any, .any], objs := [], live := [0], next := 1, fid := 20, base := 0, obase := 0, round := none })]⟩,
  ⟨21, 26, { slots := [(.c (.int .u8)), .any, .any, (.c (.int .i64)), .any, .any, .any, .any, .any, .any, .any, .any, .any], objs := [], live := [], next := 0, fid := 21, base := 0, obase := 0, round := none },
    [(.ret, { slots := [.any, .any, (.c (.int .i64)), .any, .any, .any, .any, .any, .any, .any, .any, .any, .any], objs := [], live := [], next := 0, fid := 21, base := 0, obase := 0, round := none }), ((.exit 0), { slots := [.any, .any, .any, .any, .any, .any, .any, .any, .any, .any, .any, .any, .any], objs := [], live := [], next := 0, fid := 21, base := 0, obase := 0, round := none })]⟩,
  ⟨22, 58, { slots := [(.c (.ro (.int .i64))), .any, .any, (.c (.int .i64)), (.c (.int .i64)), .any, .any, .any, .any, .any, .any, .any, .any, .any, .any, .any, .any, .any, .any], objs := [], live := [], next := 0, fid := 22, base := 0, obase := 0, round := none },
    [((.exit 0), { slots := [.any, .any, .any, (.c (.int .i64)), .any, .any, .any, .any, .any, .any, .any, .any, .any, .any, .any, .any, .any, .any, .any], objs := [], live := [], next := 0, fid := 22, base := 0, obase := 0, round := none })]⟩,
  ⟨25, 58, { slots := [(.c (.ro (.int .u8))), .any, .any, (.c (.int .i64)), .any, .any, .any, (.c (.int .i64)), .any, .any, .any, .any, .any, .any, .any, .any, .any, .any, .any, .any, .any, .any, .any, .any, .any, .any, .any, .any, .any, .any, .any, .any, .any, .any, .any, .any, .any, .any, .any, .any, .any, .any, .any, .any, .any, .any, .any, .any, .any, .any], objs := [], live := [], next := 0, fid := 25, base := 0, obase := 0, round := none },
    [((.exit 0), { slots := [(.c (.ro (.int .u8))), .any, .any, (.c (.int .i64)), .any, .any, .any, .any, .any, .any, .any, .any, .any, .any, .any, .any, .any, .any, .any, .any, .any, .any, .any, .any, .any, .any, .any, .any, .any, .any, .any, .any, .any, .any, .any, .any, .any, .any, .any, .any, .any, .any, .any, .any, .any, .any, .any, .any, .any, .any], objs := [], live := [], next := 0, fid := 25, base := 0, obase := 0, round := none })]⟩,
  ⟨25, 250, { slots := [.any, .any, .any, .any, .any, (.c (.fix (.mslice 0))), (.c (.int .i64)), .any, .any, .any, .any, .any, .any, .any, .any, .any, .any, .any, .any, .any, .any, .any, .any, .any, .any, .any, .any, .any, .any, .any, .any, .any, .any, .any, .any, .any, .any, .any, .any, .any, .any, .any, .any, .any, .any, .any, .any, .any, .any, .any], objs := [(.row (.int .u8) false)], live := [], next := 0, fid := 25, base := 0, obase := 0, round := none },
    [((.exit 2), { slots := [.any, .any, .any, .any, .any, (.c (.fix (.mslice 0))), .any, .any, .any, .any, .any, .any, .any, .any, .any, .any, .any, .any, .any, .any, .any, .any, .any, .any, .any, .any, .any, .any, .any, .any, .any, .any, .any, .any, .any, .any, .any, .any, .any, .any, .any, .any, .any, .any, .any, .any, .any, .any, .any, .any], objs := [(.row (.int .u8) false)], live := [], next := 0, fid := 25, base := 0, obase := 0, round := none })]⟩,
  ⟨26, 3730, { slots := [(.c (.ro (.int .u8))), .any, .any, (.c (.own (.int .i64) 0)), (.c (.int .i64)), (.c (.int .i64)), .any, .any, .any, .any, .any, .any, .any, .any, .any, .any, .any, .any, .any, .any, .any, .any, .any, .any, .any, .any, .any, .any, .any], objs := [], live := [0], next := 1, fid := 26, base := 0, obase := 0, round := none },
    [((.exit 2), { slots := [(.c (.ro (.int .u8))), .any, .any, (.c (.own (.int .i64) 0)), (.c (.int .i64)), .any, .any, .any, .any, .any, .any, .any, .any, .any, .any, .any, .any, .any, .any, .any, .any, .any, .any, .any, .any, .any, .any, .any, .any], objs := [], live := [0], next := 1, fid := 26, base := 0, obase := 0, round := none })]⟩,
  ⟨26, 58, { slots := [(.c (.ro (.int .u8))), .any, .any, (.c (.own (.int .i64) 0)), (.c (.int .i64)), .any, .any, .any, .any, .any, .any, .any, .any, .any, .any, .any, .any, .any, .any, .any, .any, .any, .any, .any, .any, .any, .any, .any, .any], objs := [], live := [0], next := 1, fid := 26, base := 0, obase := 0, round := none },
    [((.exit 0), { slots := [.any, .any, .any, (.c (.own (.int .i64) 0)), .any, .any, .any, .any, .any, .any, .any, .any, .any, .any, .any, .any, .any, .any, .any, .any, .any, .any, .any, .any, .any, .any, .any, .any, .any], objs := [], live := [0], next := 1, fid := 26, base := 0, obase := 0, round := none })]⟩]

variable {pcN : Nat → PC prog} {pc : PC prog} {lN : Nat → LP} {lp : LP}

/-! posthouse/posthouselaw1.Base64EncodeMatchesSpec -/
theorem law1_Base64EncodeMatchesSpec_t : (RTy prog 3).den = Bool := by kernel_rfl
noncomputable def law1_Base64EncodeMatchesSpec_c (pc : PC prog) (a0 : List Int) : Option Bool := got law1_Base64EncodeMatchesSpec_t (pc 3 [(.c (.slice .ro (.int .u8) a0))])
theorem law1_Base64EncodeMatchesSpec_ca (E : AppE prog pcN pc lN lp) {a0 : List Int} : Approx (fun N => law1_Base64EncodeMatchesSpec_c (pcN N) a0) (law1_Base64EncodeMatchesSpec_c pc a0) := Approx.got law1_Base64EncodeMatchesSpec_t (E.call _ _)

/-! posthouse/posthouselaw1.Base64LenientMatchesSpec -/
theorem law1_Base64LenientMatchesSpec_t : (RTy prog 4).den = Bool := by kernel_rfl
noncomputable def law1_Base64LenientMatchesSpec_c (pc : PC prog) (a0 : List Int) : Option Bool := got law1_Base64LenientMatchesSpec_t (pc 4 [(.c (.slice .ro (.int .u8) a0))])
theorem law1_Base64LenientMatchesSpec_ca (E : AppE prog pcN pc lN lp) {a0 : List Int} : Approx (fun N => law1_Base64LenientMatchesSpec_c (pcN N) a0) (law1_Base64LenientMatchesSpec_c pc a0) := Approx.got law1_Base64LenientMatchesSpec_t (E.call _ _)

/-! posthouse/posthouselaw1.Base64RoundTrip -/
theorem law1_Base64RoundTrip_t : (RTy prog 5).den = Bool := by kernel_rfl
noncomputable def law1_Base64RoundTrip_c (pc : PC prog) (a0 : List Int) : Option Bool := got law1_Base64RoundTrip_t (pc 5 [(.c (.slice .ro (.int .u8) a0))])
theorem law1_Base64RoundTrip_ca (E : AppE prog pcN pc lN lp) {a0 : List Int} : Approx (fun N => law1_Base64RoundTrip_c (pcN N) a0) (law1_Base64RoundTrip_c pc a0) := Approx.got law1_Base64RoundTrip_t (E.call _ _)

/-! posthouse/posthouselaw1.Base64Unique -/
theorem law1_Base64Unique_t : (RTy prog 6).den = Bool := by kernel_rfl
noncomputable def law1_Base64Unique_c (pc : PC prog) (a0 : List Int) : Option Bool := got law1_Base64Unique_t (pc 6 [(.c (.slice .ro (.int .u8) a0))])
theorem law1_Base64Unique_ca (E : AppE prog pcN pc lN lp) {a0 : List Int} : Approx (fun N => law1_Base64Unique_c (pcN N) a0) (law1_Base64Unique_c pc a0) := Approx.got law1_Base64Unique_t (E.call _ _)

/-! posthouse/posthouselaw1.Base64IgnoresLines -/
theorem law1_Base64IgnoresLines_t : (RTy prog 7).den = Bool := by kernel_rfl
noncomputable def law1_Base64IgnoresLines_c (pc : PC prog) (a0 : List Int) (a1 : Int) : Option Bool := got law1_Base64IgnoresLines_t (pc 7 [(.c (.slice .ro (.int .u8) a0)), (.c (.int .i64 a1))])
theorem law1_Base64IgnoresLines_ca (E : AppE prog pcN pc lN lp) {a0 : List Int} {a1 : Int} : Approx (fun N => law1_Base64IgnoresLines_c (pcN N) a0 a1) (law1_Base64IgnoresLines_c pc a0 a1) := Approx.got law1_Base64IgnoresLines_t (E.call _ _)

/-! posthouse/posthouselaw1.base64Example -/
theorem law1_base64Example_t : (RTy prog 8).den = Bool := by kernel_rfl
noncomputable def law1_base64Example_c (pc : PC prog)  : Option Bool := got law1_base64Example_t (pc 8 [])
theorem law1_base64Example_ca (E : AppE prog pcN pc lN lp)  : Approx (fun N => law1_base64Example_c (pcN N) ) (law1_base64Example_c pc ) := Approx.got law1_base64Example_t (E.call _ _)

/-! posthouse/base64.Encode -/
theorem base64_Encode_t : (RTy prog 9).den = ((List Int) × ((Int × (Int × Unit)) × Unit)) := by kernel_rfl
noncomputable def base64_Encode_c (pc : PC prog) (a0 : List Int) : Option ((List Int) × ((Int × (Int × Unit)) × Unit)) := got base64_Encode_t (pc 9 [(.c (.slice .ro (.int .u8) a0))])
theorem base64_Encode_ca (E : AppE prog pcN pc lN lp) {a0 : List Int} : Approx (fun N => base64_Encode_c (pcN N) a0) (base64_Encode_c pc a0) := Approx.got base64_Encode_t (E.call _ _)

/-! posthouse/posthouseref1.At -/
theorem ref1_At_t : (RTy prog 10).den = (Int × (Int × Unit)) := by kernel_rfl
noncomputable def ref1_At_c (pc : PC prog) (a0 : Int) (a1 : Int) : Option (Int × (Int × Unit)) := got ref1_At_t (pc 10 [(.c (.int .i64 a0)), (.c (.int .i64 a1))])
theorem ref1_At_ca (E : AppE prog pcN pc lN lp) {a0 : Int} {a1 : Int} : Approx (fun N => ref1_At_c (pcN N) a0 a1) (ref1_At_c pc a0 a1) := Approx.got ref1_At_t (E.call _ _)

/-! posthouse/posthouseref1.Lines64 -/
theorem ref1_Lines64_t : (RTy prog 12).den = (List Int) := by kernel_rfl
noncomputable def ref1_Lines64_c (pc : PC prog) (a0 : List Int) : Option (List Int) := got ref1_Lines64_t (pc 12 [(.c (.slice .ro (.int .u8) a0))])
theorem ref1_Lines64_ca (E : AppE prog pcN pc lN lp) {a0 : List Int} : Approx (fun N => ref1_Lines64_c (pcN N) a0) (ref1_Lines64_c pc a0) := Approx.got ref1_Lines64_t (E.call _ _)

/-! posthouse/posthouseref1.Bytes -/
theorem ref1_Bytes_t : (RTy prog 11).den = Bool := by kernel_rfl
noncomputable def ref1_Bytes_c (pc : PC prog) (a0 : List Int) (a1 : List Int) : Option Bool := got ref1_Bytes_t (pc 11 [(.c (.slice .ro (.int .u8) a0)), (.c (.slice .ro (.int .u8) a1))])
theorem ref1_Bytes_ca (E : AppE prog pcN pc lN lp) {a0 : List Int} {a1 : List Int} : Approx (fun N => ref1_Bytes_c (pcN N) a0 a1) (ref1_Bytes_c pc a0 a1) := Approx.got ref1_Bytes_t (E.call _ _)

/-! posthouse/base64.Lenient -/
theorem base64_Lenient_t : (RTy prog 13).den = ((List Int) × ((Int × (Int × Unit)) × Unit)) := by kernel_rfl
noncomputable def base64_Lenient_c (pc : PC prog) (a0 : List Int) : Option ((List Int) × ((Int × (Int × Unit)) × Unit)) := got base64_Lenient_t (pc 13 [(.c (.slice .ro (.int .u8) a0))])
theorem base64_Lenient_ca (E : AppE prog pcN pc lN lp) {a0 : List Int} : Approx (fun N => base64_Lenient_c (pcN N) a0) (base64_Lenient_c pc a0) := Approx.got base64_Lenient_t (E.call _ _)

/-! posthouse/posthouseref1.Loose64 -/
theorem ref1_Loose64_t : (RTy prog 14).den = (List Int) := by kernel_rfl
noncomputable def ref1_Loose64_c (pc : PC prog) (a0 : List Int) : Option (List Int) := got ref1_Loose64_t (pc 14 [(.c (.slice .ro (.int .u8) a0))])
theorem ref1_Loose64_ca (E : AppE prog pcN pc lN lp) {a0 : List Int} : Approx (fun N => ref1_Loose64_c (pcN N) a0) (ref1_Loose64_c pc a0) := Approx.got ref1_Loose64_t (E.call _ _)

/-! posthouse/base64.Decode -/
theorem base64_Decode_t : (RTy prog 15).den = ((List Int) × ((Int × (Int × Unit)) × Unit)) := by kernel_rfl
noncomputable def base64_Decode_c (pc : PC prog) (a0 : List Int) : Option ((List Int) × ((Int × (Int × Unit)) × Unit)) := got base64_Decode_t (pc 15 [(.c (.slice .ro (.int .u8) a0))])
theorem base64_Decode_ca (E : AppE prog pcN pc lN lp) {a0 : List Int} : Approx (fun N => base64_Decode_c (pcN N) a0) (base64_Decode_c pc a0) := Approx.got base64_Decode_t (E.call _ _)

/-! posthouse/posthouseref1.In -/
theorem ref1_In_t : (RTy prog 16).den = Bool := by kernel_rfl
noncomputable def ref1_In_c (pc : PC prog) (a0 : Int) (a1 : Int) (a2 : Int) : Option Bool := got ref1_In_t (pc 16 [(.c (.int .i64 a0)), (.c (.int .i64 a1)), (.c (.int .i64 a2))])
theorem ref1_In_ca (E : AppE prog pcN pc lN lp) {a0 : Int} {a1 : Int} {a2 : Int} : Approx (fun N => ref1_In_c (pcN N) a0 a1 a2) (ref1_In_c pc a0 a1 a2) := Approx.got ref1_In_t (E.call _ _)

/-! posthouse/base64.Plain -/
theorem base64_Plain_t : (RTy prog 18).den = (List Int) := by kernel_rfl
noncomputable def base64_Plain_c (pc : PC prog) (a0 : List Int) : Option (List Int) := got base64_Plain_t (pc 18 [(.c (.slice .ro (.int .u8) a0))])
theorem base64_Plain_ca (E : AppE prog pcN pc lN lp) {a0 : List Int} : Approx (fun N => base64_Plain_c (pcN N) a0) (base64_Plain_c pc a0) := Approx.got base64_Plain_t (E.call _ _)

/-! posthouse/posthouseref1.Chars64 -/
theorem ref1_Chars64_t : (RTy prog 19).den = (List Int) := by kernel_rfl
noncomputable def ref1_Chars64_c (pc : PC prog) (a0 : List Int) : Option (List Int) := got ref1_Chars64_t (pc 19 [(.c (.slice .ro (.int .u8) a0))])
theorem ref1_Chars64_ca (E : AppE prog pcN pc lN lp) {a0 : List Int} : Approx (fun N => ref1_Chars64_c (pcN N) a0) (ref1_Chars64_c pc a0) := Approx.got ref1_Chars64_t (E.call _ _)

/-! posthouse/base64.Loose -/
theorem base64_Loose_t : (RTy prog 20).den = (List Int) := by kernel_rfl
noncomputable def base64_Loose_c (pc : PC prog) (a0 : List Int) : Option (List Int) := got base64_Loose_t (pc 20 [(.c (.slice .ro (.int .u8) a0))])
theorem base64_Loose_ca (E : AppE prog pcN pc lN lp) {a0 : List Int} : Approx (fun N => base64_Loose_c (pcN N) a0) (base64_Loose_c pc a0) := Approx.got base64_Loose_t (E.call _ _)

/-! posthouse/posthouseref1.value64 -/
theorem ref1_value64_t : (RTy prog 21).den = Int := by kernel_rfl
noncomputable def ref1_value64_c (pc : PC prog) (a0 : Int) : Option Int := got ref1_value64_t (pc 21 [(.c (.int .u8 a0))])
theorem ref1_value64_ca (E : AppE prog pcN pc lN lp) {a0 : Int} : Approx (fun N => ref1_value64_c (pcN N) a0) (ref1_value64_c pc a0) := Approx.got ref1_value64_t (E.call _ _)

/-! posthouse/posthouseref1.sum -/
theorem ref1_sum_t : (RTy prog 22).den = Int := by kernel_rfl
noncomputable def ref1_sum_c (pc : PC prog) (a0 : List Int) : Option Int := got ref1_sum_t (pc 22 [(.c (.slice .ro (.int .i64) a0))])
theorem ref1_sum_ca (E : AppE prog pcN pc lN lp) {a0 : List Int} : Approx (fun N => ref1_sum_c (pcN N) a0) (ref1_sum_c pc a0) := Approx.got ref1_sum_t (E.call _ _)

/-! bytes.Equal -/
theorem bytes_Equal_t : (RTy prog 23).den = Bool := by kernel_rfl
noncomputable def bytes_Equal_c (pc : PC prog) (a0 : List Int) (a1 : List Int) : Option Bool := got bytes_Equal_t (pc 23 [(.c (.slice .ro (.int .u8) a0)), (.c (.slice .ro (.int .u8) a1))])
theorem bytes_Equal_ca (E : AppE prog pcN pc lN lp) {a0 : List Int} {a1 : List Int} : Approx (fun N => bytes_Equal_c (pcN N) a0 a1) (bytes_Equal_c pc a0 a1) := Approx.got bytes_Equal_t (E.call _ _)

/-! posthouse/base64.Group -/
theorem base64_Group_t : (RTy prog 25).den = (List Int) := by kernel_rfl
noncomputable def base64_Group_c (pc : PC prog) (a0 : List Int) : Option (List Int) := got base64_Group_t (pc 25 [(.c (.slice .ro (.int .u8) a0))])
theorem base64_Group_ca (E : AppE prog pcN pc lN lp) {a0 : List Int} : Approx (fun N => base64_Group_c (pcN N) a0) (base64_Group_c pc a0) := Approx.got base64_Group_t (E.call _ _)

/-! posthouse/posthouseref1.Bits -/
theorem ref1_Bits_t : (RTy prog 26).den = (List Int) := by kernel_rfl
noncomputable def ref1_Bits_c (pc : PC prog) (a0 : List Int) : Option (List Int) := got ref1_Bits_t (pc 26 [(.c (.slice .ro (.int .u8) a0))])
theorem ref1_Bits_ca (E : AppE prog pcN pc lN lp) {a0 : List Int} : Approx (fun N => ref1_Bits_c (pcN N) a0) (ref1_Bits_c pc a0) := Approx.got ref1_Bits_t (E.call _ _)

/-! posthouse/base64.value -/
theorem base64_value_t : (RTy prog 27).den = Int := by kernel_rfl
noncomputable def base64_value_c (pc : PC prog) (a0 : Int) : Option Int := got base64_value_t (pc 27 [(.c (.int .u8 a0))])
theorem base64_value_ca (E : AppE prog pcN pc lN lp) {a0 : Int} : Approx (fun N => base64_value_c (pcN N) a0) (base64_value_c pc a0) := Approx.got base64_value_t (E.call _ _)

/-! bytes.IndexByte -/
theorem bytes_IndexByte_t : (RTy prog 28).den = Int := by kernel_rfl
noncomputable def bytes_IndexByte_c (pc : PC prog) (a0 : List Int) (a1 : Int) : Option Int := got bytes_IndexByte_t (pc 28 [(.c (.slice .ro (.int .u8) a0)), (.c (.int .u8 a1))])
theorem bytes_IndexByte_ca (E : AppE prog pcN pc lN lp) {a0 : List Int} {a1 : Int} : Approx (fun N => bytes_IndexByte_c (pcN N) a0 a1) (bytes_IndexByte_c pc a0 a1) := Approx.got bytes_IndexByte_t (E.call _ _)

end Go.Proofs.YthnfcjbglfkhlaaSim
