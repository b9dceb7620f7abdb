/- Part 2 of the texts behind the theorem of this claim: What the types and functions of this translation are: facts that a program (mkT.py) has printed;the kernel checks each;The logic, part 14: data that a row hands in, as abstract values;a law that answers true;The logic, part 15: make;The logic, part 16: calls that are given objects: pointers, own slices, maps, closures over them;The logic, part 17: maps of the call's own;The logic, part 18: what is done with maps of the call's own;The logic, part 19: regions that draw their order and change something: what changes something waits for all that is left;what only looks may come up earlier or later;The logic, part 20: held regions, walked by a plan;The logic, part 21: pieces of rows, by whole numbers;The logic, part 22: stores into own rows;The logic, part 23: contracts that were proved elsewhere, in the logic's words;The logic, part 24: pointers held against nil;bytes and texts;arrays that a conversion made;strings.Builder's ways;The logic, part 25: arrays;the text over a row of bytes;a nil row in a box is taken for an own one -/
import Derived.Test.YtnjolbnbpfjdiaaDoorQd1
import Derived.Test.YtnjolbnbpfjdiaaDoorProg
import Derived.KernelRfl
import Derived.ChangeArms
import Derived.ChangeOld
import Derived.Carry
import Derived.SizedLaws
import Derived.WideShapes
import Derived.ChangeSame
import Derived.Laws.MakeOwn
import Derived.MapKept
import Derived.WideKeyRuns
import Derived.ChangeKeysEq
import Derived.Maps.RangeRun
import Derived.Laws.IdiomRangeMap
import Derived.OrdersHeld
import Derived.LaidEqlPtr
import Derived.Laws.Externs
import Derived.Laws.IdiomStrings
import Derived.Lib.ConvBytes
import Derived.Lib.UnsafeStr
import Derived.Lib.Builder
set_option linter.unusedVariables false
set_option linter.unusedSimpArgs false
namespace Go.Proofs.YtnjolbnbpfjdiaaDoor.L
open Go Go.Proofs
set_option maxRecDepth 100000
theorem iz1 : (Tryd.prog.info? 1).map (fun i => (i.zero, i.size, i.bytes)) = some (some .nilFunc, 1, 8) := by kernel_rfl
instance : TZ Tryd.prog 1 false 1 8 .nilFunc := ⟨iz1, tz_agg Tryd.underlying1 rfl⟩
theorem iz2 : (Tryd.prog.info? 2).map (fun i => (i.zero, i.size, i.bytes)) = some (some (.int .i64 0), 1, 8) := by kernel_rfl
instance : TI Tryd.prog 2 (.int .i64) 1 8 (.int .i64 0) := ⟨Tryd.underlying2, iz2⟩
instance : TZ Tryd.prog 2 false 1 8 (.int .i64 0) := ⟨iz2, tz_agg Tryd.underlying2 rfl⟩
theorem iz3 : (Tryd.prog.info? 3).map (fun i => (i.zero, i.size, i.bytes)) = some (some (.int .i64 0), 1, 8) := by kernel_rfl
instance : TI Tryd.prog 3 (.int .i64) 1 8 (.int .i64 0) := ⟨Tryd.underlying3, iz3⟩
instance : TZ Tryd.prog 3 false 1 8 (.int .i64 0) := ⟨iz3, tz_agg Tryd.underlying3 rfl⟩
theorem iz4 : (Tryd.prog.info? 4).map (fun i => (i.zero, i.size, i.bytes)) = some (some (.bool false), 1, 1) := by kernel_rfl
instance : TI Tryd.prog 4 .bool 1 1 (.bool false) := ⟨Tryd.underlying4, iz4⟩
instance : TZ Tryd.prog 4 false 1 1 (.bool false) := ⟨iz4, tz_agg Tryd.underlying4 rfl⟩
theorem iz5 : (Tryd.prog.info? 5).map (fun i => (i.zero, i.size, i.bytes)) = some (some (.int .u8 0), 1, 1) := by kernel_rfl
instance : TI Tryd.prog 5 (.int .u8) 1 1 (.int .u8 0) := ⟨Tryd.underlying5, iz5⟩
instance : TZ Tryd.prog 5 false 1 1 (.int .u8 0) := ⟨iz5, tz_agg Tryd.underlying5 rfl⟩
theorem iz6 : (Tryd.prog.info? 6).map (fun i => (i.zero, i.size, i.bytes)) = some (some (.int .u8 0), 1, 1) := by kernel_rfl
instance : TI Tryd.prog 6 (.int .u8) 1 1 (.int .u8 0) := ⟨Tryd.underlying6, iz6⟩
instance : TZ Tryd.prog 6 false 1 1 (.int .u8 0) := ⟨iz6, tz_agg Tryd.underlying6 rfl⟩
theorem iz7 : (Tryd.prog.info? 7).map (fun i => (i.zero, i.size, i.bytes)) = some (some (.agg #[(.int .i64 0), (.int .i64 0), (.bool false), (.int .u8 0)]), 4, 24) := by kernel_rfl
instance : TZ Tryd.prog 7 true 4 24 (.agg #[(.int .i64 0), (.int .i64 0), (.bool false), (.int .u8 0)]) := ⟨iz7, tz_agg Tryd.underlying7 rfl⟩
instance : FO Tryd.prog 7 0 0 1 := ⟨_, _, Tryd.underlying7, rfl, rfl, iz_size iz2, by decide⟩
instance : FO Tryd.prog 7 1 1 1 := ⟨_, _, Tryd.underlying7, rfl, rfl, iz_size iz3, by decide⟩
instance : FO Tryd.prog 7 2 2 1 := ⟨_, _, Tryd.underlying7, rfl, rfl, iz_size iz4, by decide⟩
instance : FO Tryd.prog 7 3 3 1 := ⟨_, _, Tryd.underlying7, rfl, rfl, iz_size iz6, by decide⟩
instance : FT Tryd.prog 7 [(0, 1), (1, 1), (2, 1), (3, 1)] := ⟨_, Tryd.underlying7, .cons (iz_size iz2) (.cons (iz_size iz3) (.cons (iz_size iz4) (.cons (iz_size iz6) (.nil))))⟩
theorem iz8 : (Tryd.prog.info? 8).map (fun i => (i.zero, i.size, i.bytes)) = some (some (.agg #[(.int .i64 0), (.int .i64 0), (.bool false), (.int .u8 0)]), 4, 24) := by kernel_rfl
instance : TZ Tryd.prog 8 true 4 24 (.agg #[(.int .i64 0), (.int .i64 0), (.bool false), (.int .u8 0)]) := ⟨iz8, tz_agg Tryd.underlying8 rfl⟩
instance : FO Tryd.prog 8 0 0 1 := ⟨_, _, Tryd.underlying8, rfl, rfl, iz_size iz2, by decide⟩
instance : FO Tryd.prog 8 1 1 1 := ⟨_, _, Tryd.underlying8, rfl, rfl, iz_size iz3, by decide⟩
instance : FO Tryd.prog 8 2 2 1 := ⟨_, _, Tryd.underlying8, rfl, rfl, iz_size iz4, by decide⟩
instance : FO Tryd.prog 8 3 3 1 := ⟨_, _, Tryd.underlying8, rfl, rfl, iz_size iz6, by decide⟩
instance : FT Tryd.prog 8 [(0, 1), (1, 1), (2, 1), (3, 1)] := ⟨_, Tryd.underlying8, .cons (iz_size iz2) (.cons (iz_size iz3) (.cons (iz_size iz4) (.cons (iz_size iz6) (.nil))))⟩
theorem iz9 : (Tryd.prog.info? 9).map (fun i => (i.zero, i.size, i.bytes)) = some (some (.string ⟨#[]⟩), 1, 16) := by kernel_rfl
instance : TI Tryd.prog 9 .string 1 16 (.string ⟨#[]⟩) := ⟨Tryd.underlying9, iz9⟩
instance : TZ Tryd.prog 9 false 1 16 (.string ⟨#[]⟩) := ⟨iz9, tz_agg Tryd.underlying9 rfl⟩
theorem iz10 : (Tryd.prog.info? 10).map (fun i => (i.zero, i.size, i.bytes)) = some (some (.string ⟨#[]⟩), 1, 16) := by kernel_rfl
instance : TI Tryd.prog 10 .string 1 16 (.string ⟨#[]⟩) := ⟨Tryd.underlying10, iz10⟩
instance : TZ Tryd.prog 10 false 1 16 (.string ⟨#[]⟩) := ⟨iz10, tz_agg Tryd.underlying10 rfl⟩
theorem iz11 : (Tryd.prog.info? 11).map (fun i => (i.zero, i.size, i.bytes)) = some (some (.string ⟨#[]⟩), 1, 16) := by kernel_rfl
instance : TI Tryd.prog 11 .string 1 16 (.string ⟨#[]⟩) := ⟨Tryd.underlying11, iz11⟩
instance : TZ Tryd.prog 11 false 1 16 (.string ⟨#[]⟩) := ⟨iz11, tz_agg Tryd.underlying11 rfl⟩
theorem iz12 : (Tryd.prog.info? 12).map (fun i => (i.zero, i.size, i.bytes)) = some (some (.int .u64 0), 1, 8) := by kernel_rfl
instance : TI Tryd.prog 12 (.int .u64) 1 8 (.int .u64 0) := ⟨Tryd.underlying12, iz12⟩
instance : TZ Tryd.prog 12 false 1 8 (.int .u64 0) := ⟨iz12, tz_agg Tryd.underlying12 rfl⟩
theorem iz13 : (Tryd.prog.info? 13).map (fun i => (i.zero, i.size, i.bytes)) = some (some (.agg #[(.string ⟨#[]⟩), (.int .u64 0)]), 2, 24) := by kernel_rfl
instance : TZ Tryd.prog 13 true 2 24 (.agg #[(.string ⟨#[]⟩), (.int .u64 0)]) := ⟨iz13, tz_agg Tryd.underlying13 rfl⟩
instance : FO Tryd.prog 13 0 0 1 := ⟨_, _, Tryd.underlying13, rfl, rfl, iz_size iz9, by decide⟩
instance : FO Tryd.prog 13 1 1 1 := ⟨_, _, Tryd.underlying13, rfl, rfl, iz_size iz12, by decide⟩
instance : FT Tryd.prog 13 [(0, 1), (1, 1)] := ⟨_, Tryd.underlying13, .cons (iz_size iz9) (.cons (iz_size iz12) (.nil))⟩
theorem iz14 : (Tryd.prog.info? 14).map (fun i => (i.zero, i.size, i.bytes)) = some (some (.agg #[(.string ⟨#[]⟩), (.int .u64 0)]), 2, 24) := by kernel_rfl
instance : TZ Tryd.prog 14 true 2 24 (.agg #[(.string ⟨#[]⟩), (.int .u64 0)]) := ⟨iz14, tz_agg Tryd.underlying14 rfl⟩
instance : FO Tryd.prog 14 0 0 1 := ⟨_, _, Tryd.underlying14, rfl, rfl, iz_size iz9, by decide⟩
instance : FO Tryd.prog 14 1 1 1 := ⟨_, _, Tryd.underlying14, rfl, rfl, iz_size iz12, by decide⟩
instance : FT Tryd.prog 14 [(0, 1), (1, 1)] := ⟨_, Tryd.underlying14, .cons (iz_size iz9) (.cons (iz_size iz12) (.nil))⟩
theorem iz15 : (Tryd.prog.info? 15).map (fun i => (i.zero, i.size, i.bytes)) = some (some (.pointer none), 1, 8) := by kernel_rfl
instance : TI Tryd.prog 15 (.pointer 170) 1 8 (.pointer none) := ⟨Tryd.underlying15, iz15⟩
instance : TZ Tryd.prog 15 false 1 8 (.pointer none) := ⟨iz15, tz_agg Tryd.underlying15 rfl⟩
theorem iz16 : (Tryd.prog.info? 16).map (fun i => (i.zero, i.size, i.bytes)) = some (some (.pointer none), 1, 8) := by kernel_rfl
instance : TI Tryd.prog 16 (.pointer 173) 1 8 (.pointer none) := ⟨Tryd.underlying16, iz16⟩
instance : TZ Tryd.prog 16 false 1 8 (.pointer none) := ⟨iz16, tz_agg Tryd.underlying16 rfl⟩
theorem iz17 : (Tryd.prog.info? 17).map (fun i => (i.zero, i.size, i.bytes)) = some (some (.pointer none), 1, 8) := by kernel_rfl
instance : TI Tryd.prog 17 (.pointer 181) 1 8 (.pointer none) := ⟨Tryd.underlying17, iz17⟩
instance : TZ Tryd.prog 17 false 1 8 (.pointer none) := ⟨iz17, tz_agg Tryd.underlying17 rfl⟩
theorem iz18 : (Tryd.prog.info? 18).map (fun i => (i.zero, i.size, i.bytes)) = some (some (.agg #[(.pointer none)]), 1, 8) := by kernel_rfl
instance : TZ Tryd.prog 18 true 1 8 (.agg #[(.pointer none)]) := ⟨iz18, tz_agg Tryd.underlying18 rfl⟩
instance : FO Tryd.prog 18 0 0 1 := ⟨_, _, Tryd.underlying18, rfl, rfl, iz_size iz17, by decide⟩
instance : FT Tryd.prog 18 [(0, 1)] := ⟨_, Tryd.underlying18, .cons (iz_size iz17) (.nil)⟩
theorem iz19 : (Tryd.prog.info? 19).map (fun i => (i.zero, i.size, i.bytes)) = some (some (.agg #[(.pointer none)]), 1, 8) := by kernel_rfl
instance : TZ Tryd.prog 19 true 1 8 (.agg #[(.pointer none)]) := ⟨iz19, tz_agg Tryd.underlying19 rfl⟩
instance : FO Tryd.prog 19 0 0 1 := ⟨_, _, Tryd.underlying19, rfl, rfl, iz_size iz17, by decide⟩
instance : FT Tryd.prog 19 [(0, 1)] := ⟨_, Tryd.underlying19, .cons (iz_size iz17) (.nil)⟩
theorem iz20 : (Tryd.prog.info? 20).map (fun i => (i.zero, i.size, i.bytes)) = some (some .nilIface, 1, 16) := by kernel_rfl
instance : TZ Tryd.prog 20 false 1 16 .nilIface := ⟨iz20, tz_agg Tryd.underlying20 rfl⟩
theorem iz21 : (Tryd.prog.info? 21).map (fun i => (i.zero, i.size, i.bytes)) = some (some (.int .i32 0), 1, 4) := by kernel_rfl
instance : TI Tryd.prog 21 (.int .i32) 1 4 (.int .i32 0) := ⟨Tryd.underlying21, iz21⟩
instance : TZ Tryd.prog 21 false 1 4 (.int .i32 0) := ⟨iz21, tz_agg Tryd.underlying21 rfl⟩
theorem iz22 : (Tryd.prog.info? 22).map (fun i => (i.zero, i.size, i.bytes)) = some (some (.slice none 0 0), 1, 24) := by kernel_rfl
instance : TI Tryd.prog 22 (.slice 28) 1 24 (.slice none 0 0) := ⟨Tryd.underlying22, iz22⟩
instance : TZ Tryd.prog 22 false 1 24 (.slice none 0 0) := ⟨iz22, tz_agg Tryd.underlying22 rfl⟩
theorem iz23 : (Tryd.prog.info? 23).map (fun i => (i.zero, i.size, i.bytes)) = some (some (.int .i64 0), 1, 8) := by kernel_rfl
instance : TI Tryd.prog 23 (.int .i64) 1 8 (.int .i64 0) := ⟨Tryd.underlying23, iz23⟩
instance : TZ Tryd.prog 23 false 1 8 (.int .i64 0) := ⟨iz23, tz_agg Tryd.underlying23 rfl⟩
theorem iz25 : (Tryd.prog.info? 25).map (fun i => (i.zero, i.size, i.bytes)) = some (some .nilFunc, 1, 8) := by kernel_rfl
instance : TZ Tryd.prog 25 false 1 8 .nilFunc := ⟨iz25, tz_agg Tryd.underlying25 rfl⟩
theorem iz26 : (Tryd.prog.info? 26).map (fun i => (i.zero, i.size, i.bytes)) = some (some (.slice none 0 0), 1, 24) := by kernel_rfl
instance : TI Tryd.prog 26 (.slice 61) 1 24 (.slice none 0 0) := ⟨Tryd.underlying26, iz26⟩
instance : TZ Tryd.prog 26 false 1 24 (.slice none 0 0) := ⟨iz26, tz_agg Tryd.underlying26 rfl⟩
theorem iz27 : (Tryd.prog.info? 27).map (fun i => (i.zero, i.size, i.bytes)) = some (some (.agg #[(.int .i64 0), (.slice none 0 0), (.string ⟨#[]⟩), (.bool false)]), 4, 56) := by kernel_rfl
instance : TZ Tryd.prog 27 true 4 56 (.agg #[(.int .i64 0), (.slice none 0 0), (.string ⟨#[]⟩), (.bool false)]) := ⟨iz27, tz_agg Tryd.underlying27 rfl⟩
instance : FO Tryd.prog 27 0 0 1 := ⟨_, _, Tryd.underlying27, rfl, rfl, iz_size iz3, by decide⟩
instance : FO Tryd.prog 27 1 1 1 := ⟨_, _, Tryd.underlying27, rfl, rfl, iz_size iz26, by decide⟩
instance : FO Tryd.prog 27 2 2 1 := ⟨_, _, Tryd.underlying27, rfl, rfl, iz_size iz9, by decide⟩
instance : FO Tryd.prog 27 3 3 1 := ⟨_, _, Tryd.underlying27, rfl, rfl, iz_size iz4, by decide⟩
instance : FT Tryd.prog 27 [(0, 1), (1, 1), (2, 1), (3, 1)] := ⟨_, Tryd.underlying27, .cons (iz_size iz3) (.cons (iz_size iz26) (.cons (iz_size iz9) (.cons (iz_size iz4) (.nil))))⟩
theorem iz28 : (Tryd.prog.info? 28).map (fun i => (i.zero, i.size, i.bytes)) = some (some (.agg #[(.int .i64 0), (.slice none 0 0), (.string ⟨#[]⟩), (.bool false)]), 4, 56) := by kernel_rfl
instance : TZ Tryd.prog 28 true 4 56 (.agg #[(.int .i64 0), (.slice none 0 0), (.string ⟨#[]⟩), (.bool false)]) := ⟨iz28, tz_agg Tryd.underlying28 rfl⟩
instance : FO Tryd.prog 28 0 0 1 := ⟨_, _, Tryd.underlying28, rfl, rfl, iz_size iz3, by decide⟩
instance : FO Tryd.prog 28 1 1 1 := ⟨_, _, Tryd.underlying28, rfl, rfl, iz_size iz26, by decide⟩
instance : FO Tryd.prog 28 2 2 1 := ⟨_, _, Tryd.underlying28, rfl, rfl, iz_size iz9, by decide⟩
instance : FO Tryd.prog 28 3 3 1 := ⟨_, _, Tryd.underlying28, rfl, rfl, iz_size iz4, by decide⟩
instance : FT Tryd.prog 28 [(0, 1), (1, 1), (2, 1), (3, 1)] := ⟨_, Tryd.underlying28, .cons (iz_size iz3) (.cons (iz_size iz26) (.cons (iz_size iz9) (.cons (iz_size iz4) (.nil))))⟩
theorem iz30 : (Tryd.prog.info? 30).map (fun i => (i.zero, i.size, i.bytes)) = some (some .nilFunc, 1, 8) := by kernel_rfl
instance : TZ Tryd.prog 30 false 1 8 .nilFunc := ⟨iz30, tz_agg Tryd.underlying30 rfl⟩
theorem iz31 : (Tryd.prog.info? 31).map (fun i => (i.zero, i.size, i.bytes)) = some (some .nilFunc, 1, 8) := by kernel_rfl
instance : TZ Tryd.prog 31 false 1 8 .nilFunc := ⟨iz31, tz_agg Tryd.underlying31 rfl⟩
theorem iz32 : (Tryd.prog.info? 32).map (fun i => (i.zero, i.size, i.bytes)) = some (some .nilFunc, 1, 8) := by kernel_rfl
instance : TZ Tryd.prog 32 false 1 8 .nilFunc := ⟨iz32, tz_agg Tryd.underlying32 rfl⟩
theorem iz33 : (Tryd.prog.info? 33).map (fun i => (i.zero, i.size, i.bytes)) = some (some .nilFunc, 1, 8) := by kernel_rfl
instance : TZ Tryd.prog 33 false 1 8 .nilFunc := ⟨iz33, tz_agg Tryd.underlying33 rfl⟩
theorem iz34 : (Tryd.prog.info? 34).map (fun i => (i.zero, i.size, i.bytes)) = some (some (.slice none 0 0), 1, 24) := by kernel_rfl
instance : TI Tryd.prog 34 (.slice 70) 1 24 (.slice none 0 0) := ⟨Tryd.underlying34, iz34⟩
instance : TZ Tryd.prog 34 false 1 24 (.slice none 0 0) := ⟨iz34, tz_agg Tryd.underlying34 rfl⟩
theorem iz36 : (Tryd.prog.info? 36).map (fun i => (i.zero, i.size, i.bytes)) = some (some .nilFunc, 1, 8) := by kernel_rfl
instance : TZ Tryd.prog 36 false 1 8 .nilFunc := ⟨iz36, tz_agg Tryd.underlying36 rfl⟩
theorem iz37 : (Tryd.prog.info? 37).map (fun i => (i.zero, i.size, i.bytes)) = some (some .nilFunc, 1, 8) := by kernel_rfl
instance : TZ Tryd.prog 37 false 1 8 .nilFunc := ⟨iz37, tz_agg Tryd.underlying37 rfl⟩
theorem iz38 : (Tryd.prog.info? 38).map (fun i => (i.zero, i.size, i.bytes)) = some (some (.slice none 0 0), 1, 24) := by kernel_rfl
instance : TI Tryd.prog 38 (.slice 85) 1 24 (.slice none 0 0) := ⟨Tryd.underlying38, iz38⟩
instance : TZ Tryd.prog 38 false 1 24 (.slice none 0 0) := ⟨iz38, tz_agg Tryd.underlying38 rfl⟩
theorem iz40 : (Tryd.prog.info? 40).map (fun i => (i.zero, i.size, i.bytes)) = some (some .nilFunc, 1, 8) := by kernel_rfl
instance : TZ Tryd.prog 40 false 1 8 .nilFunc := ⟨iz40, tz_agg Tryd.underlying40 rfl⟩
theorem iz41 : (Tryd.prog.info? 41).map (fun i => (i.zero, i.size, i.bytes)) = some (some .nilFunc, 1, 8) := by kernel_rfl
instance : TZ Tryd.prog 41 false 1 8 .nilFunc := ⟨iz41, tz_agg Tryd.underlying41 rfl⟩
theorem iz42 : (Tryd.prog.info? 42).map (fun i => (i.zero, i.size, i.bytes)) = some (some .nilFunc, 1, 8) := by kernel_rfl
instance : TZ Tryd.prog 42 false 1 8 .nilFunc := ⟨iz42, tz_agg Tryd.underlying42 rfl⟩
theorem iz43 : (Tryd.prog.info? 43).map (fun i => (i.zero, i.size, i.bytes)) = some (some .nilFunc, 1, 8) := by kernel_rfl
instance : TZ Tryd.prog 43 false 1 8 .nilFunc := ⟨iz43, tz_agg Tryd.underlying43 rfl⟩
theorem iz45 : (Tryd.prog.info? 45).map (fun i => (i.zero, i.size, i.bytes)) = some (some .nilFunc, 1, 8) := by kernel_rfl
instance : TZ Tryd.prog 45 false 1 8 .nilFunc := ⟨iz45, tz_agg Tryd.underlying45 rfl⟩
theorem iz46 : (Tryd.prog.info? 46).map (fun i => (i.zero, i.size, i.bytes)) = some (some .nilFunc, 1, 8) := by kernel_rfl
instance : TZ Tryd.prog 46 false 1 8 .nilFunc := ⟨iz46, tz_agg Tryd.underlying46 rfl⟩
theorem iz47 : (Tryd.prog.info? 47).map (fun i => (i.zero, i.size, i.bytes)) = some (some .nilFunc, 1, 8) := by kernel_rfl
instance : TZ Tryd.prog 47 false 1 8 .nilFunc := ⟨iz47, tz_agg Tryd.underlying47 rfl⟩
theorem iz48 : (Tryd.prog.info? 48).map (fun i => (i.zero, i.size, i.bytes)) = some (some .nilFunc, 1, 8) := by kernel_rfl
instance : TZ Tryd.prog 48 false 1 8 .nilFunc := ⟨iz48, tz_agg Tryd.underlying48 rfl⟩
theorem iz49 : (Tryd.prog.info? 49).map (fun i => (i.zero, i.size, i.bytes)) = some (some .nilFunc, 1, 8) := by kernel_rfl
instance : TZ Tryd.prog 49 false 1 8 .nilFunc := ⟨iz49, tz_agg Tryd.underlying49 rfl⟩
theorem iz50 : (Tryd.prog.info? 50).map (fun i => (i.zero, i.size, i.bytes)) = some (some .nilFunc, 1, 8) := by kernel_rfl
instance : TZ Tryd.prog 50 false 1 8 .nilFunc := ⟨iz50, tz_agg Tryd.underlying50 rfl⟩
theorem iz51 : (Tryd.prog.info? 51).map (fun i => (i.zero, i.size, i.bytes)) = some (some (.pointer none), 1, 8) := by kernel_rfl
instance : TI Tryd.prog 51 (.pointer 54) 1 8 (.pointer none) := ⟨Tryd.underlying51, iz51⟩
instance : TZ Tryd.prog 51 false 1 8 (.pointer none) := ⟨iz51, tz_agg Tryd.underlying51 rfl⟩
theorem iz52 : (Tryd.prog.info? 52).map (fun i => (i.zero, i.size, i.bytes)) = some (some (.slice none 0 0), 1, 24) := by kernel_rfl
instance : TI Tryd.prog 52 (.slice 5) 1 24 (.slice none 0 0) := ⟨Tryd.underlying52, iz52⟩
instance : TZ Tryd.prog 52 false 1 24 (.slice none 0 0) := ⟨iz52, tz_agg Tryd.underlying52 rfl⟩
theorem iz53 : (Tryd.prog.info? 53).map (fun i => (i.zero, i.size, i.bytes)) = some (some (.agg #[(.pointer none), (.slice none 0 0)]), 2, 32) := by kernel_rfl
instance : TZ Tryd.prog 53 true 2 32 (.agg #[(.pointer none), (.slice none 0 0)]) := ⟨iz53, tz_agg Tryd.underlying53 rfl⟩
instance : FO Tryd.prog 53 0 0 1 := ⟨_, _, Tryd.underlying53, rfl, rfl, iz_size iz51, by decide⟩
instance : FO Tryd.prog 53 1 1 1 := ⟨_, _, Tryd.underlying53, rfl, rfl, iz_size iz52, by decide⟩
instance : FT Tryd.prog 53 [(0, 1), (1, 1)] := ⟨_, Tryd.underlying53, .cons (iz_size iz51) (.cons (iz_size iz52) (.nil))⟩
theorem iz54 : (Tryd.prog.info? 54).map (fun i => (i.zero, i.size, i.bytes)) = some (some (.agg #[(.pointer none), (.slice none 0 0)]), 2, 32) := by kernel_rfl
instance : TZ Tryd.prog 54 true 2 32 (.agg #[(.pointer none), (.slice none 0 0)]) := ⟨iz54, tz_agg Tryd.underlying54 rfl⟩
instance : FO Tryd.prog 54 0 0 1 := ⟨_, _, Tryd.underlying54, rfl, rfl, iz_size iz51, by decide⟩
instance : FO Tryd.prog 54 1 1 1 := ⟨_, _, Tryd.underlying54, rfl, rfl, iz_size iz52, by decide⟩
instance : FT Tryd.prog 54 [(0, 1), (1, 1)] := ⟨_, Tryd.underlying54, .cons (iz_size iz51) (.cons (iz_size iz52) (.nil))⟩
theorem iz55 : (Tryd.prog.info? 55).map (fun i => (i.zero, i.size, i.bytes)) = some (some .nilIface, 1, 16) := by kernel_rfl
instance : TZ Tryd.prog 55 false 1 16 .nilIface := ⟨iz55, tz_agg Tryd.underlying55 rfl⟩
theorem iz56 : (Tryd.prog.info? 56).map (fun i => (i.zero, i.size, i.bytes)) = some (some .nilIface, 1, 16) := by kernel_rfl
instance : TZ Tryd.prog 56 false 1 16 .nilIface := ⟨iz56, tz_agg Tryd.underlying56 rfl⟩
theorem iz58 : (Tryd.prog.info? 58).map (fun i => (i.zero, i.size, i.bytes)) = some (some .nilFunc, 1, 8) := by kernel_rfl
instance : TZ Tryd.prog 58 false 1 8 .nilFunc := ⟨iz58, tz_agg Tryd.underlying58 rfl⟩
theorem iz59 : (Tryd.prog.info? 59).map (fun i => (i.zero, i.size, i.bytes)) = some (some .nilFunc, 1, 8) := by kernel_rfl
instance : TZ Tryd.prog 59 false 1 8 .nilFunc := ⟨iz59, tz_agg Tryd.underlying59 rfl⟩
theorem iz60 : (Tryd.prog.info? 60).map (fun i => (i.zero, i.size, i.bytes)) = some (some (.agg #[(.string ⟨#[]⟩), (.string ⟨#[]⟩)]), 2, 32) := by kernel_rfl
instance : TZ Tryd.prog 60 true 2 32 (.agg #[(.string ⟨#[]⟩), (.string ⟨#[]⟩)]) := ⟨iz60, tz_agg Tryd.underlying60 rfl⟩
instance : FO Tryd.prog 60 0 0 1 := ⟨_, _, Tryd.underlying60, rfl, rfl, iz_size iz9, by decide⟩
instance : FO Tryd.prog 60 1 1 1 := ⟨_, _, Tryd.underlying60, rfl, rfl, iz_size iz9, by decide⟩
instance : FT Tryd.prog 60 [(0, 1), (1, 1)] := ⟨_, Tryd.underlying60, .cons (iz_size iz9) (.cons (iz_size iz9) (.nil))⟩
theorem iz61 : (Tryd.prog.info? 61).map (fun i => (i.zero, i.size, i.bytes)) = some (some (.agg #[(.string ⟨#[]⟩), (.string ⟨#[]⟩)]), 2, 32) := by kernel_rfl
instance : TZ Tryd.prog 61 true 2 32 (.agg #[(.string ⟨#[]⟩), (.string ⟨#[]⟩)]) := ⟨iz61, tz_agg Tryd.underlying61 rfl⟩
instance : FO Tryd.prog 61 0 0 1 := ⟨_, _, Tryd.underlying61, rfl, rfl, iz_size iz9, by decide⟩
instance : FO Tryd.prog 61 1 1 1 := ⟨_, _, Tryd.underlying61, rfl, rfl, iz_size iz9, by decide⟩
instance : FT Tryd.prog 61 [(0, 1), (1, 1)] := ⟨_, Tryd.underlying61, .cons (iz_size iz9) (.cons (iz_size iz9) (.nil))⟩
instance : EQ Tryd.prog 61 [.str, .str] := ⟨by kernel_rfl, by kernel_rfl, _, Tryd.underlying61, (.str (by decide) rfl Tryd.underlying9 (.str (by decide) rfl Tryd.underlying9 .nil))⟩
theorem iz62 : (Tryd.prog.info? 62).map (fun i => (i.zero, i.size, i.bytes)) = some (some .nilFunc, 1, 8) := by kernel_rfl
instance : TZ Tryd.prog 62 false 1 8 .nilFunc := ⟨iz62, tz_agg Tryd.underlying62 rfl⟩
theorem iz63 : (Tryd.prog.info? 63).map (fun i => (i.zero, i.size, i.bytes)) = some (some .nilFunc, 1, 8) := by kernel_rfl
instance : TZ Tryd.prog 63 false 1 8 .nilFunc := ⟨iz63, tz_agg Tryd.underlying63 rfl⟩
theorem iz65 : (Tryd.prog.info? 65).map (fun i => (i.zero, i.size, i.bytes)) = some (some .nilFunc, 1, 8) := by kernel_rfl
instance : TZ Tryd.prog 65 false 1 8 .nilFunc := ⟨iz65, tz_agg Tryd.underlying65 rfl⟩
theorem iz66 : (Tryd.prog.info? 66).map (fun i => (i.zero, i.size, i.bytes)) = some (some .nilFunc, 1, 8) := by kernel_rfl
instance : TZ Tryd.prog 66 false 1 8 .nilFunc := ⟨iz66, tz_agg Tryd.underlying66 rfl⟩
theorem iz67 : (Tryd.prog.info? 67).map (fun i => (i.zero, i.size, i.bytes)) = some (some .nilFunc, 1, 8) := by kernel_rfl
instance : TZ Tryd.prog 67 false 1 8 .nilFunc := ⟨iz67, tz_agg Tryd.underlying67 rfl⟩
theorem iz68 : (Tryd.prog.info? 68).map (fun i => (i.zero, i.size, i.bytes)) = some (some .nilFunc, 1, 8) := by kernel_rfl
instance : TZ Tryd.prog 68 false 1 8 .nilFunc := ⟨iz68, tz_agg Tryd.underlying68 rfl⟩
theorem iz69 : (Tryd.prog.info? 69).map (fun i => (i.zero, i.size, i.bytes)) = some (some (.agg #[(.int .i64 0), (.int .i64 0), (.string ⟨#[]⟩), (.bool false)]), 4, 40) := by kernel_rfl
instance : TZ Tryd.prog 69 true 4 40 (.agg #[(.int .i64 0), (.int .i64 0), (.string ⟨#[]⟩), (.bool false)]) := ⟨iz69, tz_agg Tryd.underlying69 rfl⟩
instance : FO Tryd.prog 69 0 0 1 := ⟨_, _, Tryd.underlying69, rfl, rfl, iz_size iz3, by decide⟩
instance : FO Tryd.prog 69 1 1 1 := ⟨_, _, Tryd.underlying69, rfl, rfl, iz_size iz3, by decide⟩
instance : FO Tryd.prog 69 2 2 1 := ⟨_, _, Tryd.underlying69, rfl, rfl, iz_size iz9, by decide⟩
instance : FO Tryd.prog 69 3 3 1 := ⟨_, _, Tryd.underlying69, rfl, rfl, iz_size iz4, by decide⟩
instance : FT Tryd.prog 69 [(0, 1), (1, 1), (2, 1), (3, 1)] := ⟨_, Tryd.underlying69, .cons (iz_size iz3) (.cons (iz_size iz3) (.cons (iz_size iz9) (.cons (iz_size iz4) (.nil))))⟩
theorem iz70 : (Tryd.prog.info? 70).map (fun i => (i.zero, i.size, i.bytes)) = some (some (.agg #[(.int .i64 0), (.int .i64 0), (.string ⟨#[]⟩), (.bool false)]), 4, 40) := by kernel_rfl
instance : TZ Tryd.prog 70 true 4 40 (.agg #[(.int .i64 0), (.int .i64 0), (.string ⟨#[]⟩), (.bool false)]) := ⟨iz70, tz_agg Tryd.underlying70 rfl⟩
instance : FO Tryd.prog 70 0 0 1 := ⟨_, _, Tryd.underlying70, rfl, rfl, iz_size iz3, by decide⟩
instance : FO Tryd.prog 70 1 1 1 := ⟨_, _, Tryd.underlying70, rfl, rfl, iz_size iz3, by decide⟩
instance : FO Tryd.prog 70 2 2 1 := ⟨_, _, Tryd.underlying70, rfl, rfl, iz_size iz9, by decide⟩
instance : FO Tryd.prog 70 3 3 1 := ⟨_, _, Tryd.underlying70, rfl, rfl, iz_size iz4, by decide⟩
instance : FT Tryd.prog 70 [(0, 1), (1, 1), (2, 1), (3, 1)] := ⟨_, Tryd.underlying70, .cons (iz_size iz3) (.cons (iz_size iz3) (.cons (iz_size iz9) (.cons (iz_size iz4) (.nil))))⟩
instance : EQ Tryd.prog 70 [.int .i64, .int .i64, .str, .bool] := ⟨by kernel_rfl, by kernel_rfl, _, Tryd.underlying70, (.int (by decide) rfl Tryd.underlying3 (.int (by decide) rfl Tryd.underlying3 (.str (by decide) rfl Tryd.underlying9 (.bool (by decide) rfl Tryd.underlying4 .nil))))⟩
theorem iz71 : (Tryd.prog.info? 71).map (fun i => (i.zero, i.size, i.bytes)) = some (some (.slice none 0 0), 1, 24) := by kernel_rfl
instance : TI Tryd.prog 71 (.slice 183) 1 24 (.slice none 0 0) := ⟨Tryd.underlying71, iz71⟩
instance : TZ Tryd.prog 71 false 1 24 (.slice none 0 0) := ⟨iz71, tz_agg Tryd.underlying71 rfl⟩
theorem iz72 : (Tryd.prog.info? 72).map (fun i => (i.zero, i.size, i.bytes)) = some (some (.slice none 0 0), 1, 24) := by kernel_rfl
instance : TI Tryd.prog 72 (.slice 3) 1 24 (.slice none 0 0) := ⟨Tryd.underlying72, iz72⟩
instance : TZ Tryd.prog 72 false 1 24 (.slice none 0 0) := ⟨iz72, tz_agg Tryd.underlying72 rfl⟩
theorem iz73 : (Tryd.prog.info? 73).map (fun i => (i.zero, i.size, i.bytes)) = some (some (.slice none 0 0), 1, 24) := by kernel_rfl
instance : TI Tryd.prog 73 (.slice 187) 1 24 (.slice none 0 0) := ⟨Tryd.underlying73, iz73⟩
instance : TZ Tryd.prog 73 false 1 24 (.slice none 0 0) := ⟨iz73, tz_agg Tryd.underlying73 rfl⟩
theorem iz74 : (Tryd.prog.info? 74).map (fun i => (i.zero, i.size, i.bytes)) = some (some (.agg #[(.slice none 0 0), (.slice none 0 0), (.slice none 0 0), (.string ⟨#[]⟩), (.slice none 0 0), (.int .i64 0), (.int .i64 0), (.int .i64 0), (.int .i64 0)]), 9, 144) := by kernel_rfl
instance : TZ Tryd.prog 74 true 9 144 (.agg #[(.slice none 0 0), (.slice none 0 0), (.slice none 0 0), (.string ⟨#[]⟩), (.slice none 0 0), (.int .i64 0), (.int .i64 0), (.int .i64 0), (.int .i64 0)]) := ⟨iz74, tz_agg Tryd.underlying74 rfl⟩
instance : FO Tryd.prog 74 0 0 1 := ⟨_, _, Tryd.underlying74, rfl, rfl, iz_size iz71, by decide⟩
instance : FO Tryd.prog 74 1 1 1 := ⟨_, _, Tryd.underlying74, rfl, rfl, iz_size iz72, by decide⟩
instance : FO Tryd.prog 74 2 2 1 := ⟨_, _, Tryd.underlying74, rfl, rfl, iz_size iz38, by decide⟩
instance : FO Tryd.prog 74 3 3 1 := ⟨_, _, Tryd.underlying74, rfl, rfl, iz_size iz9, by decide⟩
instance : FO Tryd.prog 74 4 4 1 := ⟨_, _, Tryd.underlying74, rfl, rfl, iz_size iz73, by decide⟩
instance : FO Tryd.prog 74 5 5 1 := ⟨_, _, Tryd.underlying74, rfl, rfl, iz_size iz3, by decide⟩
instance : FO Tryd.prog 74 6 6 1 := ⟨_, _, Tryd.underlying74, rfl, rfl, iz_size iz3, by decide⟩
instance : FO Tryd.prog 74 7 7 1 := ⟨_, _, Tryd.underlying74, rfl, rfl, iz_size iz3, by decide⟩
instance : FO Tryd.prog 74 8 8 1 := ⟨_, _, Tryd.underlying74, rfl, rfl, iz_size iz3, by decide⟩
instance : FT Tryd.prog 74 [(0, 1), (1, 1), (2, 1), (3, 1), (4, 1), (5, 1), (6, 1), (7, 1), (8, 1)] := ⟨_, Tryd.underlying74, .cons (iz_size iz71) (.cons (iz_size iz72) (.cons (iz_size iz38) (.cons (iz_size iz9) (.cons (iz_size iz73) (.cons (iz_size iz3) (.cons (iz_size iz3) (.cons (iz_size iz3) (.cons (iz_size iz3) (.nil)))))))))⟩
theorem iz75 : (Tryd.prog.info? 75).map (fun i => (i.zero, i.size, i.bytes)) = some (some (.agg #[(.slice none 0 0), (.slice none 0 0), (.slice none 0 0), (.string ⟨#[]⟩), (.slice none 0 0), (.int .i64 0), (.int .i64 0), (.int .i64 0), (.int .i64 0)]), 9, 144) := by kernel_rfl
instance : TZ Tryd.prog 75 true 9 144 (.agg #[(.slice none 0 0), (.slice none 0 0), (.slice none 0 0), (.string ⟨#[]⟩), (.slice none 0 0), (.int .i64 0), (.int .i64 0), (.int .i64 0), (.int .i64 0)]) := ⟨iz75, tz_agg Tryd.underlying75 rfl⟩
instance : FO Tryd.prog 75 0 0 1 := ⟨_, _, Tryd.underlying75, rfl, rfl, iz_size iz71, by decide⟩
instance : FO Tryd.prog 75 1 1 1 := ⟨_, _, Tryd.underlying75, rfl, rfl, iz_size iz72, by decide⟩
instance : FO Tryd.prog 75 2 2 1 := ⟨_, _, Tryd.underlying75, rfl, rfl, iz_size iz38, by decide⟩
instance : FO Tryd.prog 75 3 3 1 := ⟨_, _, Tryd.underlying75, rfl, rfl, iz_size iz9, by decide⟩
instance : FO Tryd.prog 75 4 4 1 := ⟨_, _, Tryd.underlying75, rfl, rfl, iz_size iz73, by decide⟩
instance : FO Tryd.prog 75 5 5 1 := ⟨_, _, Tryd.underlying75, rfl, rfl, iz_size iz3, by decide⟩
instance : FO Tryd.prog 75 6 6 1 := ⟨_, _, Tryd.underlying75, rfl, rfl, iz_size iz3, by decide⟩
instance : FO Tryd.prog 75 7 7 1 := ⟨_, _, Tryd.underlying75, rfl, rfl, iz_size iz3, by decide⟩
instance : FO Tryd.prog 75 8 8 1 := ⟨_, _, Tryd.underlying75, rfl, rfl, iz_size iz3, by decide⟩
instance : FT Tryd.prog 75 [(0, 1), (1, 1), (2, 1), (3, 1), (4, 1), (5, 1), (6, 1), (7, 1), (8, 1)] := ⟨_, Tryd.underlying75, .cons (iz_size iz71) (.cons (iz_size iz72) (.cons (iz_size iz38) (.cons (iz_size iz9) (.cons (iz_size iz73) (.cons (iz_size iz3) (.cons (iz_size iz3) (.cons (iz_size iz3) (.cons (iz_size iz3) (.nil)))))))))⟩
theorem iz77 : (Tryd.prog.info? 77).map (fun i => (i.zero, i.size, i.bytes)) = some (some .nilFunc, 1, 8) := by kernel_rfl
instance : TZ Tryd.prog 77 false 1 8 .nilFunc := ⟨iz77, tz_agg Tryd.underlying77 rfl⟩
theorem iz78 : (Tryd.prog.info? 78).map (fun i => (i.zero, i.size, i.bytes)) = some (some (.slice none 0 0), 1, 24) := by kernel_rfl
instance : TI Tryd.prog 78 (.slice 82) 1 24 (.slice none 0 0) := ⟨Tryd.underlying78, iz78⟩
instance : TZ Tryd.prog 78 false 1 24 (.slice none 0 0) := ⟨iz78, tz_agg Tryd.underlying78 rfl⟩
theorem iz80 : (Tryd.prog.info? 80).map (fun i => (i.zero, i.size, i.bytes)) = some (some .nilFunc, 1, 8) := by kernel_rfl
instance : TZ Tryd.prog 80 false 1 8 .nilFunc := ⟨iz80, tz_agg Tryd.underlying80 rfl⟩
theorem iz81 : (Tryd.prog.info? 81).map (fun i => (i.zero, i.size, i.bytes)) = some (some (.agg #[(.int .i64 0), (.int .i64 0), (.string ⟨#[]⟩), (.int .i64 0)]), 4, 40) := by kernel_rfl
instance : TZ Tryd.prog 81 true 4 40 (.agg #[(.int .i64 0), (.int .i64 0), (.string ⟨#[]⟩), (.int .i64 0)]) := ⟨iz81, tz_agg Tryd.underlying81 rfl⟩
instance : FO Tryd.prog 81 0 0 1 := ⟨_, _, Tryd.underlying81, rfl, rfl, iz_size iz3, by decide⟩
instance : FO Tryd.prog 81 1 1 1 := ⟨_, _, Tryd.underlying81, rfl, rfl, iz_size iz3, by decide⟩
instance : FO Tryd.prog 81 2 2 1 := ⟨_, _, Tryd.underlying81, rfl, rfl, iz_size iz9, by decide⟩
instance : FO Tryd.prog 81 3 3 1 := ⟨_, _, Tryd.underlying81, rfl, rfl, iz_size iz3, by decide⟩
instance : FT Tryd.prog 81 [(0, 1), (1, 1), (2, 1), (3, 1)] := ⟨_, Tryd.underlying81, .cons (iz_size iz3) (.cons (iz_size iz3) (.cons (iz_size iz9) (.cons (iz_size iz3) (.nil))))⟩
theorem iz82 : (Tryd.prog.info? 82).map (fun i => (i.zero, i.size, i.bytes)) = some (some (.agg #[(.int .i64 0), (.int .i64 0), (.string ⟨#[]⟩), (.int .i64 0)]), 4, 40) := by kernel_rfl
instance : TZ Tryd.prog 82 true 4 40 (.agg #[(.int .i64 0), (.int .i64 0), (.string ⟨#[]⟩), (.int .i64 0)]) := ⟨iz82, tz_agg Tryd.underlying82 rfl⟩
instance : FO Tryd.prog 82 0 0 1 := ⟨_, _, Tryd.underlying82, rfl, rfl, iz_size iz3, by decide⟩
instance : FO Tryd.prog 82 1 1 1 := ⟨_, _, Tryd.underlying82, rfl, rfl, iz_size iz3, by decide⟩
instance : FO Tryd.prog 82 2 2 1 := ⟨_, _, Tryd.underlying82, rfl, rfl, iz_size iz9, by decide⟩
instance : FO Tryd.prog 82 3 3 1 := ⟨_, _, Tryd.underlying82, rfl, rfl, iz_size iz3, by decide⟩
instance : FT Tryd.prog 82 [(0, 1), (1, 1), (2, 1), (3, 1)] := ⟨_, Tryd.underlying82, .cons (iz_size iz3) (.cons (iz_size iz3) (.cons (iz_size iz9) (.cons (iz_size iz3) (.nil))))⟩
instance : EQ Tryd.prog 82 [.int .i64, .int .i64, .str, .int .i64] := ⟨by kernel_rfl, by kernel_rfl, _, Tryd.underlying82, (.int (by decide) rfl Tryd.underlying3 (.int (by decide) rfl Tryd.underlying3 (.str (by decide) rfl Tryd.underlying9 (.int (by decide) rfl Tryd.underlying3 .nil))))⟩
theorem iz83 : (Tryd.prog.info? 83).map (fun i => (i.zero, i.size, i.bytes)) = some (some .nilFunc, 1, 8) := by kernel_rfl
instance : TZ Tryd.prog 83 false 1 8 .nilFunc := ⟨iz83, tz_agg Tryd.underlying83 rfl⟩
theorem iz84 : (Tryd.prog.info? 84).map (fun i => (i.zero, i.size, i.bytes)) = some (some (.agg #[(.int .i64 0), (.int .i64 0)]), 2, 16) := by kernel_rfl
instance : TZ Tryd.prog 84 true 2 16 (.agg #[(.int .i64 0), (.int .i64 0)]) := ⟨iz84, tz_agg Tryd.underlying84 rfl⟩
instance : FO Tryd.prog 84 0 0 1 := ⟨_, _, Tryd.underlying84, rfl, rfl, iz_size iz3, by decide⟩
instance : FO Tryd.prog 84 1 1 1 := ⟨_, _, Tryd.underlying84, rfl, rfl, iz_size iz3, by decide⟩
instance : FT Tryd.prog 84 [(0, 1), (1, 1)] := ⟨_, Tryd.underlying84, .cons (iz_size iz3) (.cons (iz_size iz3) (.nil))⟩
theorem iz85 : (Tryd.prog.info? 85).map (fun i => (i.zero, i.size, i.bytes)) = some (some (.agg #[(.int .i64 0), (.int .i64 0)]), 2, 16) := by kernel_rfl
instance : TZ Tryd.prog 85 true 2 16 (.agg #[(.int .i64 0), (.int .i64 0)]) := ⟨iz85, tz_agg Tryd.underlying85 rfl⟩
instance : FO Tryd.prog 85 0 0 1 := ⟨_, _, Tryd.underlying85, rfl, rfl, iz_size iz3, by decide⟩
instance : FO Tryd.prog 85 1 1 1 := ⟨_, _, Tryd.underlying85, rfl, rfl, iz_size iz3, by decide⟩
instance : FT Tryd.prog 85 [(0, 1), (1, 1)] := ⟨_, Tryd.underlying85, .cons (iz_size iz3) (.cons (iz_size iz3) (.nil))⟩
instance : EQ Tryd.prog 85 [.int .i64, .int .i64] := ⟨by kernel_rfl, by kernel_rfl, _, Tryd.underlying85, (.int (by decide) rfl Tryd.underlying3 (.int (by decide) rfl Tryd.underlying3 .nil))⟩
theorem iz86 : (Tryd.prog.info? 86).map (fun i => (i.zero, i.size, i.bytes)) = some (some .nilFunc, 1, 8) := by kernel_rfl
instance : TZ Tryd.prog 86 false 1 8 .nilFunc := ⟨iz86, tz_agg Tryd.underlying86 rfl⟩
theorem iz87 : (Tryd.prog.info? 87).map (fun i => (i.zero, i.size, i.bytes)) = some (some .nilFunc, 1, 8) := by kernel_rfl
instance : TZ Tryd.prog 87 false 1 8 .nilFunc := ⟨iz87, tz_agg Tryd.underlying87 rfl⟩
theorem iz88 : (Tryd.prog.info? 88).map (fun i => (i.zero, i.size, i.bytes)) = some (some .nilFunc, 1, 8) := by kernel_rfl
instance : TZ Tryd.prog 88 false 1 8 .nilFunc := ⟨iz88, tz_agg Tryd.underlying88 rfl⟩
theorem iz89 : (Tryd.prog.info? 89).map (fun i => (i.zero, i.size, i.bytes)) = some (some (.slice none 0 0), 1, 24) := by kernel_rfl
instance : TI Tryd.prog 89 (.slice 9) 1 24 (.slice none 0 0) := ⟨Tryd.underlying89, iz89⟩
instance : TZ Tryd.prog 89 false 1 24 (.slice none 0 0) := ⟨iz89, tz_agg Tryd.underlying89 rfl⟩
theorem iz90 : (Tryd.prog.info? 90).map (fun i => (i.zero, i.size, i.bytes)) = some (some .nilFunc, 1, 8) := by kernel_rfl
instance : TZ Tryd.prog 90 false 1 8 .nilFunc := ⟨iz90, tz_agg Tryd.underlying90 rfl⟩
theorem iz91 : (Tryd.prog.info? 91).map (fun i => (i.zero, i.size, i.bytes)) = some (some .nilFunc, 1, 8) := by kernel_rfl
instance : TZ Tryd.prog 91 false 1 8 .nilFunc := ⟨iz91, tz_agg Tryd.underlying91 rfl⟩
theorem iz93 : (Tryd.prog.info? 93).map (fun i => (i.zero, i.size, i.bytes)) = some (some .nilFunc, 1, 8) := by kernel_rfl
instance : TZ Tryd.prog 93 false 1 8 .nilFunc := ⟨iz93, tz_agg Tryd.underlying93 rfl⟩
theorem iz94 : (Tryd.prog.info? 94).map (fun i => (i.zero, i.size, i.bytes)) = some (some .nilFunc, 1, 8) := by kernel_rfl
instance : TZ Tryd.prog 94 false 1 8 .nilFunc := ⟨iz94, tz_agg Tryd.underlying94 rfl⟩
theorem iz96 : (Tryd.prog.info? 96).map (fun i => (i.zero, i.size, i.bytes)) = some (some .nilFunc, 1, 8) := by kernel_rfl
instance : TZ Tryd.prog 96 false 1 8 .nilFunc := ⟨iz96, tz_agg Tryd.underlying96 rfl⟩
theorem iz97 : (Tryd.prog.info? 97).map (fun i => (i.zero, i.size, i.bytes)) = some (some .nilFunc, 1, 8) := by kernel_rfl
instance : TZ Tryd.prog 97 false 1 8 .nilFunc := ⟨iz97, tz_agg Tryd.underlying97 rfl⟩
theorem iz98 : (Tryd.prog.info? 98).map (fun i => (i.zero, i.size, i.bytes)) = some (some (.slice none 0 0), 1, 24) := by kernel_rfl
instance : TI Tryd.prog 98 (.slice 101) 1 24 (.slice none 0 0) := ⟨Tryd.underlying98, iz98⟩
instance : TZ Tryd.prog 98 false 1 24 (.slice none 0 0) := ⟨iz98, tz_agg Tryd.underlying98 rfl⟩
theorem iz99 : (Tryd.prog.info? 99).map (fun i => (i.zero, i.size, i.bytes)) = some (some .nilFunc, 1, 8) := by kernel_rfl
instance : TZ Tryd.prog 99 false 1 8 .nilFunc := ⟨iz99, tz_agg Tryd.underlying99 rfl⟩
theorem iz100 : (Tryd.prog.info? 100).map (fun i => (i.zero, i.size, i.bytes)) = some (some (.agg #[(.int .i64 0), (.string ⟨#[]⟩)]), 2, 24) := by kernel_rfl
instance : TZ Tryd.prog 100 true 2 24 (.agg #[(.int .i64 0), (.string ⟨#[]⟩)]) := ⟨iz100, tz_agg Tryd.underlying100 rfl⟩
instance : FO Tryd.prog 100 0 0 1 := ⟨_, _, Tryd.underlying100, rfl, rfl, iz_size iz3, by decide⟩
instance : FO Tryd.prog 100 1 1 1 := ⟨_, _, Tryd.underlying100, rfl, rfl, iz_size iz9, by decide⟩
instance : FT Tryd.prog 100 [(0, 1), (1, 1)] := ⟨_, Tryd.underlying100, .cons (iz_size iz3) (.cons (iz_size iz9) (.nil))⟩
theorem iz101 : (Tryd.prog.info? 101).map (fun i => (i.zero, i.size, i.bytes)) = some (some (.agg #[(.int .i64 0), (.string ⟨#[]⟩)]), 2, 24) := by kernel_rfl
instance : TZ Tryd.prog 101 true 2 24 (.agg #[(.int .i64 0), (.string ⟨#[]⟩)]) := ⟨iz101, tz_agg Tryd.underlying101 rfl⟩
instance : FO Tryd.prog 101 0 0 1 := ⟨_, _, Tryd.underlying101, rfl, rfl, iz_size iz3, by decide⟩
instance : FO Tryd.prog 101 1 1 1 := ⟨_, _, Tryd.underlying101, rfl, rfl, iz_size iz9, by decide⟩
instance : FT Tryd.prog 101 [(0, 1), (1, 1)] := ⟨_, Tryd.underlying101, .cons (iz_size iz3) (.cons (iz_size iz9) (.nil))⟩
instance : EQ Tryd.prog 101 [.int .i64, .str] := ⟨by kernel_rfl, by kernel_rfl, _, Tryd.underlying101, (.int (by decide) rfl Tryd.underlying3 (.str (by decide) rfl Tryd.underlying9 .nil))⟩
theorem iz102 : (Tryd.prog.info? 102).map (fun i => (i.zero, i.size, i.bytes)) = some (some (.pointer none), 1, 8) := by kernel_rfl
instance : TI Tryd.prog 102 (.pointer 5) 1 8 (.pointer none) := ⟨Tryd.underlying102, iz102⟩
instance : TZ Tryd.prog 102 false 1 8 (.pointer none) := ⟨iz102, tz_agg Tryd.underlying102 rfl⟩
theorem iz103 : (Tryd.prog.info? 103).map (fun i => (i.zero, i.size, i.bytes)) = some (some .nilFunc, 1, 8) := by kernel_rfl
instance : TZ Tryd.prog 103 false 1 8 .nilFunc := ⟨iz103, tz_agg Tryd.underlying103 rfl⟩
theorem iz104 : (Tryd.prog.info? 104).map (fun i => (i.zero, i.size, i.bytes)) = some (some .nilFunc, 1, 8) := by kernel_rfl
instance : TZ Tryd.prog 104 false 1 8 .nilFunc := ⟨iz104, tz_agg Tryd.underlying104 rfl⟩
theorem iz105 : (Tryd.prog.info? 105).map (fun i => (i.zero, i.size, i.bytes)) = some (some .nilFunc, 1, 8) := by kernel_rfl
instance : TZ Tryd.prog 105 false 1 8 .nilFunc := ⟨iz105, tz_agg Tryd.underlying105 rfl⟩
theorem iz106 : (Tryd.prog.info? 106).map (fun i => (i.zero, i.size, i.bytes)) = some (some .nilFunc, 1, 8) := by kernel_rfl
instance : TZ Tryd.prog 106 false 1 8 .nilFunc := ⟨iz106, tz_agg Tryd.underlying106 rfl⟩
theorem iz107 : (Tryd.prog.info? 107).map (fun i => (i.zero, i.size, i.bytes)) = some (some .nilFunc, 1, 8) := by kernel_rfl
instance : TZ Tryd.prog 107 false 1 8 .nilFunc := ⟨iz107, tz_agg Tryd.underlying107 rfl⟩
theorem iz108 : (Tryd.prog.info? 108).map (fun i => (i.zero, i.size, i.bytes)) = some (some .nilFunc, 1, 8) := by kernel_rfl
instance : TZ Tryd.prog 108 false 1 8 .nilFunc := ⟨iz108, tz_agg Tryd.underlying108 rfl⟩
theorem iz109 : (Tryd.prog.info? 109).map (fun i => (i.zero, i.size, i.bytes)) = some (some .nilFunc, 1, 8) := by kernel_rfl
instance : TZ Tryd.prog 109 false 1 8 .nilFunc := ⟨iz109, tz_agg Tryd.underlying109 rfl⟩
theorem iz110 : (Tryd.prog.info? 110).map (fun i => (i.zero, i.size, i.bytes)) = some (some (.agg #[(.bool false), (.bool false), (.bool false), (.bool false), (.bool false), (.bool false), (.bool false), (.bool false), (.bool false), (.bool false), (.bool false), (.bool false), (.bool false), (.bool false), (.bool false), (.bool false), (.bool false), (.bool false), (.bool false), (.bool false), (.bool false), (.bool false), (.bool false), (.bool false), (.bool false), (.bool false), (.bool false), (.bool false), (.bool false), (.bool false), (.bool false), (.bool false), (.bool false), (.bool false), (.bool false), (.bool false), (.bool false), (.bool false), (.bool false), (.bool false), (.bool false), (.bool false), (.bool false), (.bool false), (.bool false), (.bool false), (.bool false), (.bool false), (.bool false), (.bool false), (.bool false), (.bool false), (.bool false), (.bool false), (.bool false), (.bool false), (.bool false), (.bool false), (.bool false), (.bool false), (.bool false), (.bool false), (.bool false), (.bool false), (.bool false), (.bool false), (.bool false), (.bool false), (.bool false), (.bool false), (.bool false), (.bool false), (.bool false), (.bool false), (.bool false), (.bool false), (.bool false), (.bool false), (.bool false), (.bool false), (.bool false), (.bool false), (.bool false), (.bool false), (.bool false), (.bool false), (.bool false), (.bool false), (.bool false), (.bool false), (.bool false), (.bool false), (.bool false), (.bool false), (.bool false), (.bool false), (.bool false), (.bool false), (.bool false), (.bool false), (.bool false), (.bool false), (.bool false), (.bool false), (.bool false), (.bool false), (.bool false), (.bool false), (.bool false), (.bool false), (.bool false), (.bool false), (.bool false), (.bool false), (.bool false), (.bool false), (.bool false), (.bool false), (.bool false), (.bool false), (.bool false), (.bool false), (.bool false), (.bool false), (.bool false), (.bool false), (.bool false), (.bool false), (.bool false), (.bool false), (.bool false), (.bool false), (.bool false), (.bool false), (.bool false), (.bool false), (.bool false), (.bool false), (.bool false), (.bool false), (.bool false), (.bool false), (.bool false), (.bool false), (.bool false), (.bool false), (.bool false), (.bool false), (.bool false), (.bool false), (.bool false), (.bool false), (.bool false), (.bool false), (.bool false), (.bool false), (.bool false), (.bool false), (.bool false), (.bool false), (.bool false), (.bool false), (.bool false), (.bool false), (.bool false), (.bool false), (.bool false), (.bool false), (.bool false), (.bool false), (.bool false), (.bool false), (.bool false), (.bool false), (.bool false), (.bool false), (.bool false), (.bool false), (.bool false), (.bool false), (.bool false), (.bool false), (.bool false), (.bool false), (.bool false), (.bool false), (.bool false), (.bool false), (.bool false), (.bool false), (.bool false), (.bool false), (.bool false), (.bool false), (.bool false), (.bool false), (.bool false), (.bool false), (.bool false), (.bool false), (.bool false), (.bool false), (.bool false), (.bool false), (.bool false), (.bool false), (.bool false), (.bool false), (.bool false), (.bool false), (.bool false), (.bool false), (.bool false), (.bool false), (.bool false), (.bool false), (.bool false), (.bool false), (.bool false), (.bool false), (.bool false), (.bool false), (.bool false), (.bool false), (.bool false), (.bool false), (.bool false), (.bool false), (.bool false), (.bool false), (.bool false), (.bool false), (.bool false), (.bool false), (.bool false), (.bool false), (.bool false), (.bool false), (.bool false), (.bool false), (.bool false), (.bool false), (.bool false), (.bool false), (.bool false), (.bool false), (.bool false), (.bool false), (.bool false), (.bool false), (.bool false), (.bool false), (.bool false), (.bool false), (.bool false), (.bool false)]), 256, 256) := by kernel_rfl
instance : TI Tryd.prog 110 (.array 256 4) 256 256 (.agg #[(.bool false), (.bool false), (.bool false), (.bool false), (.bool false), (.bool false), (.bool false), (.bool false), (.bool false), (.bool false), (.bool false), (.bool false), (.bool false), (.bool false), (.bool false), (.bool false), (.bool false), (.bool false), (.bool false), (.bool false), (.bool false), (.bool false), (.bool false), (.bool false), (.bool false), (.bool false), (.bool false), (.bool false), (.bool false), (.bool false), (.bool false), (.bool false), (.bool false), (.bool false), (.bool false), (.bool false), (.bool false), (.bool false), (.bool false), (.bool false), (.bool false), (.bool false), (.bool false), (.bool false), (.bool false), (.bool false), (.bool false), (.bool false), (.bool false), (.bool false), (.bool false), (.bool false), (.bool false), (.bool false), (.bool false), (.bool false), (.bool false), (.bool false), (.bool false), (.bool false), (.bool false), (.bool false), (.bool false), (.bool false), (.bool false), (.bool false), (.bool false), (.bool false), (.bool false), (.bool false), (.bool false), (.bool false), (.bool false), (.bool false), (.bool false), (.bool false), (.bool false), (.bool false), (.bool false), (.bool false), (.bool false), (.bool false), (.bool false), (.bool false), (.bool false), (.bool false), (.bool false), (.bool false), (.bool false), (.bool false), (.bool false), (.bool false), (.bool false), (.bool false), (.bool false), (.bool false), (.bool false), (.bool false), (.bool false), (.bool false), (.bool false), (.bool false), (.bool false), (.bool false), (.bool false), (.bool false), (.bool false), (.bool false), (.bool false), (.bool false), (.bool false), (.bool false), (.bool false), (.bool false), (.bool false), (.bool false), (.bool false), (.bool false), (.bool false), (.bool false), (.bool false), (.bool false), (.bool false), (.bool false), (.bool false), (.bool false), (.bool false), (.bool false), (.bool false), (.bool false), (.bool false), (.bool false), (.bool false), (.bool false), (.bool false), (.bool false), (.bool false), (.bool false), (.bool false), (.bool false), (.bool false), (.bool false), (.bool false), (.bool false), (.bool false), (.bool false), (.bool false), (.bool false), (.bool false), (.bool false), (.bool false), (.bool false), (.bool false), (.bool false), (.bool false), (.bool false), (.bool false), (.bool false), (.bool false), (.bool false), (.bool false), (.bool false), (.bool false), (.bool false), (.bool false), (.bool false), (.bool false), (.bool false), (.bool false), (.bool false), (.bool false), (.bool false), (.bool false), (.bool false), (.bool false), (.bool false), (.bool false), (.bool false), (.bool false), (.bool false), (.bool false), (.bool false), (.bool false), (.bool false), (.bool false), (.bool false), (.bool false), (.bool false), (.bool false), (.bool false), (.bool false), (.bool false), (.bool false), (.bool false), (.bool false), (.bool false), (.bool false), (.bool false), (.bool false), (.bool false), (.bool false), (.bool false), (.bool false), (.bool false), (.bool false), (.bool false), (.bool false), (.bool false), (.bool false), (.bool false), (.bool false), (.bool false), (.bool false), (.bool false), (.bool false), (.bool false), (.bool false), (.bool false), (.bool false), (.bool false), (.bool false), (.bool false), (.bool false), (.bool false), (.bool false), (.bool false), (.bool false), (.bool false), (.bool false), (.bool false), (.bool false), (.bool false), (.bool false), (.bool false), (.bool false), (.bool false), (.bool false), (.bool false), (.bool false), (.bool false), (.bool false), (.bool false), (.bool false), (.bool false), (.bool false), (.bool false), (.bool false), (.bool false), (.bool false), (.bool false), (.bool false), (.bool false), (.bool false), (.bool false), (.bool false), (.bool false)]) := ⟨Tryd.underlying110, iz110⟩
instance : TZ Tryd.prog 110 true 256 256 (.agg #[(.bool false), (.bool false), (.bool false), (.bool false), (.bool false), (.bool false), (.bool false), (.bool false), (.bool false), (.bool false), (.bool false), (.bool false), (.bool false), (.bool false), (.bool false), (.bool false), (.bool false), (.bool false), (.bool false), (.bool false), (.bool false), (.bool false), (.bool false), (.bool false), (.bool false), (.bool false), (.bool false), (.bool false), (.bool false), (.bool false), (.bool false), (.bool false), (.bool false), (.bool false), (.bool false), (.bool false), (.bool false), (.bool false), (.bool false), (.bool false), (.bool false), (.bool false), (.bool false), (.bool false), (.bool false), (.bool false), (.bool false), (.bool false), (.bool false), (.bool false), (.bool false), (.bool false), (.bool false), (.bool false), (.bool false), (.bool false), (.bool false), (.bool false), (.bool false), (.bool false), (.bool false), (.bool false), (.bool false), (.bool false), (.bool false), (.bool false), (.bool false), (.bool false), (.bool false), (.bool false), (.bool false), (.bool false), (.bool false), (.bool false), (.bool false), (.bool false), (.bool false), (.bool false), (.bool false), (.bool false), (.bool false), (.bool false), (.bool false), (.bool false), (.bool false), (.bool false), (.bool false), (.bool false), (.bool false), (.bool false), (.bool false), (.bool false), (.bool false), (.bool false), (.bool false), (.bool false), (.bool false), (.bool false), (.bool false), (.bool false), (.bool false), (.bool false), (.bool false), (.bool false), (.bool false), (.bool false), (.bool false), (.bool false), (.bool false), (.bool false), (.bool false), (.bool false), (.bool false), (.bool false), (.bool false), (.bool false), (.bool false), (.bool false), (.bool false), (.bool false), (.bool false), (.bool false), (.bool false), (.bool false), (.bool false), (.bool false), (.bool false), (.bool false), (.bool false), (.bool false), (.bool false), (.bool false), (.bool false), (.bool false), (.bool false), (.bool false), (.bool false), (.bool false), (.bool false), (.bool false), (.bool false), (.bool false), (.bool false), (.bool false), (.bool false), (.bool false), (.bool false), (.bool false), (.bool false), (.bool false), (.bool false), (.bool false), (.bool false), (.bool false), (.bool false), (.bool false), (.bool false), (.bool false), (.bool false), (.bool false), (.bool false), (.bool false), (.bool false), (.bool false), (.bool false), (.bool false), (.bool false), (.bool false), (.bool false), (.bool false), (.bool false), (.bool false), (.bool false), (.bool false), (.bool false), (.bool false), (.bool false), (.bool false), (.bool false), (.bool false), (.bool false), (.bool false), (.bool false), (.bool false), (.bool false), (.bool false), (.bool false), (.bool false), (.bool false), (.bool false), (.bool false), (.bool false), (.bool false), (.bool false), (.bool false), (.bool false), (.bool false), (.bool false), (.bool false), (.bool false), (.bool false), (.bool false), (.bool false), (.bool false), (.bool false), (.bool false), (.bool false), (.bool false), (.bool false), (.bool false), (.bool false), (.bool false), (.bool false), (.bool false), (.bool false), (.bool false), (.bool false), (.bool false), (.bool false), (.bool false), (.bool false), (.bool false), (.bool false), (.bool false), (.bool false), (.bool false), (.bool false), (.bool false), (.bool false), (.bool false), (.bool false), (.bool false), (.bool false), (.bool false), (.bool false), (.bool false), (.bool false), (.bool false), (.bool false), (.bool false), (.bool false), (.bool false), (.bool false), (.bool false), (.bool false), (.bool false), (.bool false), (.bool false), (.bool false), (.bool false), (.bool false), (.bool false), (.bool false), (.bool false), (.bool false), (.bool false)]) := ⟨iz110, tz_agg Tryd.underlying110 rfl⟩
theorem iz111 : (Tryd.prog.info? 111).map (fun i => (i.zero, i.size, i.bytes)) = some (some (.agg #[(.bool false), (.bool false), (.bool false), (.bool false), (.bool false), (.bool false), (.bool false), (.bool false), (.bool false), (.bool false), (.bool false), (.bool false), (.bool false), (.bool false), (.bool false), (.bool false), (.bool false), (.bool false), (.bool false), (.bool false), (.bool false), (.bool false), (.bool false), (.bool false), (.bool false), (.bool false), (.bool false), (.bool false), (.bool false), (.bool false), (.bool false), (.bool false), (.bool false), (.bool false), (.bool false), (.bool false), (.bool false), (.bool false), (.bool false), (.bool false), (.bool false), (.bool false), (.bool false), (.bool false), (.bool false), (.bool false), (.bool false), (.bool false), (.bool false), (.bool false), (.bool false), (.bool false), (.bool false), (.bool false), (.bool false), (.bool false), (.bool false), (.bool false), (.bool false), (.bool false), (.bool false), (.bool false), (.bool false), (.bool false), (.bool false), (.bool false), (.bool false), (.bool false), (.bool false), (.bool false), (.bool false), (.bool false), (.bool false), (.bool false), (.bool false), (.bool false), (.bool false), (.bool false), (.bool false), (.bool false), (.bool false), (.bool false), (.bool false), (.bool false), (.bool false), (.bool false), (.bool false), (.bool false), (.bool false), (.bool false), (.bool false), (.bool false), (.bool false), (.bool false), (.bool false), (.bool false), (.bool false), (.bool false), (.bool false), (.bool false), (.bool false), (.bool false), (.bool false), (.bool false), (.bool false), (.bool false), (.bool false), (.bool false), (.bool false), (.bool false), (.bool false), (.bool false), (.bool false), (.bool false), (.bool false), (.bool false), (.bool false), (.bool false), (.bool false), (.bool false), (.bool false), (.bool false), (.bool false), (.bool false), (.bool false), (.bool false), (.bool false), (.bool false), (.bool false), (.bool false), (.bool false), (.bool false), (.bool false), (.bool false), (.bool false), (.bool false), (.bool false), (.bool false), (.bool false), (.bool false), (.bool false), (.bool false), (.bool false), (.bool false), (.bool false), (.bool false), (.bool false), (.bool false), (.bool false), (.bool false), (.bool false), (.bool false), (.bool false), (.bool false), (.bool false), (.bool false), (.bool false), (.bool false), (.bool false), (.bool false), (.bool false), (.bool false), (.bool false), (.bool false), (.bool false), (.bool false), (.bool false), (.bool false), (.bool false), (.bool false), (.bool false), (.bool false), (.bool false), (.bool false), (.bool false), (.bool false), (.bool false), (.bool false), (.bool false), (.bool false), (.bool false), (.bool false), (.bool false), (.bool false), (.bool false), (.bool false), (.bool false), (.bool false), (.bool false), (.bool false), (.bool false), (.bool false), (.bool false), (.bool false), (.bool false), (.bool false), (.bool false), (.bool false), (.bool false), (.bool false), (.bool false), (.bool false), (.bool false), (.bool false), (.bool false), (.bool false), (.bool false), (.bool false), (.bool false), (.bool false), (.bool false), (.bool false), (.bool false), (.bool false), (.bool false), (.bool false), (.bool false), (.bool false), (.bool false), (.bool false), (.bool false), (.bool false), (.bool false), (.bool false), (.bool false), (.bool false), (.bool false), (.bool false), (.bool false), (.bool false), (.bool false), (.bool false), (.bool false), (.bool false), (.bool false), (.bool false), (.bool false), (.bool false), (.bool false), (.bool false), (.bool false), (.bool false), (.bool false), (.bool false), (.bool false), (.bool false), (.bool false), (.bool false), (.bool false), (.bool false), (.bool false), (.bool false), (.bool false), (.bool false), (.bool false), (.bool false)]), 256, 256) := by kernel_rfl
instance : TI Tryd.prog 111 (.array 256 4) 256 256 (.agg #[(.bool false), (.bool false), (.bool false), (.bool false), (.bool false), (.bool false), (.bool false), (.bool false), (.bool false), (.bool false), (.bool false), (.bool false), (.bool false), (.bool false), (.bool false), (.bool false), (.bool false), (.bool false), (.bool false), (.bool false), (.bool false), (.bool false), (.bool false), (.bool false), (.bool false), (.bool false), (.bool false), (.bool false), (.bool false), (.bool false), (.bool false), (.bool false), (.bool false), (.bool false), (.bool false), (.bool false), (.bool false), (.bool false), (.bool false), (.bool false), (.bool false), (.bool false), (.bool false), (.bool false), (.bool false), (.bool false), (.bool false), (.bool false), (.bool false), (.bool false), (.bool false), (.bool false), (.bool false), (.bool false), (.bool false), (.bool false), (.bool false), (.bool false), (.bool false), (.bool false), (.bool false), (.bool false), (.bool false), (.bool false), (.bool false), (.bool false), (.bool false), (.bool false), (.bool false), (.bool false), (.bool false), (.bool false), (.bool false), (.bool false), (.bool false), (.bool false), (.bool false), (.bool false), (.bool false), (.bool false), (.bool false), (.bool false), (.bool false), (.bool false), (.bool false), (.bool false), (.bool false), (.bool false), (.bool false), (.bool false), (.bool false), (.bool false), (.bool false), (.bool false), (.bool false), (.bool false), (.bool false), (.bool false), (.bool false), (.bool false), (.bool false), (.bool false), (.bool false), (.bool false), (.bool false), (.bool false), (.bool false), (.bool false), (.bool false), (.bool false), (.bool false), (.bool false), (.bool false), (.bool false), (.bool false), (.bool false), (.bool false), (.bool false), (.bool false), (.bool false), (.bool false), (.bool false), (.bool false), (.bool false), (.bool false), (.bool false), (.bool false), (.bool false), (.bool false), (.bool false), (.bool false), (.bool false), (.bool false), (.bool false), (.bool false), (.bool false), (.bool false), (.bool false), (.bool false), (.bool false), (.bool false), (.bool false), (.bool false), (.bool false), (.bool false), (.bool false), (.bool false), (.bool false), (.bool false), (.bool false), (.bool false), (.bool false), (.bool false), (.bool false), (.bool false), (.bool false), (.bool false), (.bool false), (.bool false), (.bool false), (.bool false), (.bool false), (.bool false), (.bool false), (.bool false), (.bool false), (.bool false), (.bool false), (.bool false), (.bool false), (.bool false), (.bool false), (.bool false), (.bool false), (.bool false), (.bool false), (.bool false), (.bool false), (.bool false), (.bool false), (.bool false), (.bool false), (.bool false), (.bool false), (.bool false), (.bool false), (.bool false), (.bool false), (.bool false), (.bool false), (.bool false), (.bool false), (.bool false), (.bool false), (.bool false), (.bool false), (.bool false), (.bool false), (.bool false), (.bool false), (.bool false), (.bool false), (.bool false), (.bool false), (.bool false), (.bool false), (.bool false), (.bool false), (.bool false), (.bool false), (.bool false), (.bool false), (.bool false), (.bool false), (.bool false), (.bool false), (.bool false), (.bool false), (.bool false), (.bool false), (.bool false), (.bool false), (.bool false), (.bool false), (.bool false), (.bool false), (.bool false), (.bool false), (.bool false), (.bool false), (.bool false), (.bool false), (.bool false), (.bool false), (.bool false), (.bool false), (.bool false), (.bool false), (.bool false), (.bool false), (.bool false), (.bool false), (.bool false), (.bool false), (.bool false), (.bool false), (.bool false), (.bool false), (.bool false), (.bool false), (.bool false), (.bool false), (.bool false), (.bool false), (.bool false), (.bool false)]) := ⟨Tryd.underlying111, iz111⟩
instance : TZ Tryd.prog 111 true 256 256 (.agg #[(.bool false), (.bool false), (.bool false), (.bool false), (.bool false), (.bool false), (.bool false), (.bool false), (.bool false), (.bool false), (.bool false), (.bool false), (.bool false), (.bool false), (.bool false), (.bool false), (.bool false), (.bool false), (.bool false), (.bool false), (.bool false), (.bool false), (.bool false), (.bool false), (.bool false), (.bool false), (.bool false), (.bool false), (.bool false), (.bool false), (.bool false), (.bool false), (.bool false), (.bool false), (.bool false), (.bool false), (.bool false), (.bool false), (.bool false), (.bool false), (.bool false), (.bool false), (.bool false), (.bool false), (.bool false), (.bool false), (.bool false), (.bool false), (.bool false), (.bool false), (.bool false), (.bool false), (.bool false), (.bool false), (.bool false), (.bool false), (.bool false), (.bool false), (.bool false), (.bool false), (.bool false), (.bool false), (.bool false), (.bool false), (.bool false), (.bool false), (.bool false), (.bool false), (.bool false), (.bool false), (.bool false), (.bool false), (.bool false), (.bool false), (.bool false), (.bool false), (.bool false), (.bool false), (.bool false), (.bool false), (.bool false), (.bool false), (.bool false), (.bool false), (.bool false), (.bool false), (.bool false), (.bool false), (.bool false), (.bool false), (.bool false), (.bool false), (.bool false), (.bool false), (.bool false), (.bool false), (.bool false), (.bool false), (.bool false), (.bool false), (.bool false), (.bool false), (.bool false), (.bool false), (.bool false), (.bool false), (.bool false), (.bool false), (.bool false), (.bool false), (.bool false), (.bool false), (.bool false), (.bool false), (.bool false), (.bool false), (.bool false), (.bool false), (.bool false), (.bool false), (.bool false), (.bool false), (.bool false), (.bool false), (.bool false), (.bool false), (.bool false), (.bool false), (.bool false), (.bool false), (.bool false), (.bool false), (.bool false), (.bool false), (.bool false), (.bool false), (.bool false), (.bool false), (.bool false), (.bool false), (.bool false), (.bool false), (.bool false), (.bool false), (.bool false), (.bool false), (.bool false), (.bool false), (.bool false), (.bool false), (.bool false), (.bool false), (.bool false), (.bool false), (.bool false), (.bool false), (.bool false), (.bool false), (.bool false), (.bool false), (.bool false), (.bool false), (.bool false), (.bool false), (.bool false), (.bool false), (.bool false), (.bool false), (.bool false), (.bool false), (.bool false), (.bool false), (.bool false), (.bool false), (.bool false), (.bool false), (.bool false), (.bool false), (.bool false), (.bool false), (.bool false), (.bool false), (.bool false), (.bool false), (.bool false), (.bool false), (.bool false), (.bool false), (.bool false), (.bool false), (.bool false), (.bool false), (.bool false), (.bool false), (.bool false), (.bool false), (.bool false), (.bool false), (.bool false), (.bool false), (.bool false), (.bool false), (.bool false), (.bool false), (.bool false), (.bool false), (.bool false), (.bool false), (.bool false), (.bool false), (.bool false), (.bool false), (.bool false), (.bool false), (.bool false), (.bool false), (.bool false), (.bool false), (.bool false), (.bool false), (.bool false), (.bool false), (.bool false), (.bool false), (.bool false), (.bool false), (.bool false), (.bool false), (.bool false), (.bool false), (.bool false), (.bool false), (.bool false), (.bool false), (.bool false), (.bool false), (.bool false), (.bool false), (.bool false), (.bool false), (.bool false), (.bool false), (.bool false), (.bool false), (.bool false), (.bool false), (.bool false), (.bool false), (.bool false), (.bool false), (.bool false), (.bool false), (.bool false), (.bool false), (.bool false), (.bool false)]) := ⟨iz111, tz_agg Tryd.underlying111 rfl⟩
theorem iz113 : (Tryd.prog.info? 113).map (fun i => (i.zero, i.size, i.bytes)) = some (some .nilFunc, 1, 8) := by kernel_rfl
instance : TZ Tryd.prog 113 false 1 8 .nilFunc := ⟨iz113, tz_agg Tryd.underlying113 rfl⟩
theorem iz114 : (Tryd.prog.info? 114).map (fun i => (i.zero, i.size, i.bytes)) = some (some .nilFunc, 1, 8) := by kernel_rfl
instance : TZ Tryd.prog 114 false 1 8 .nilFunc := ⟨iz114, tz_agg Tryd.underlying114 rfl⟩
theorem iz115 : (Tryd.prog.info? 115).map (fun i => (i.zero, i.size, i.bytes)) = some (some (.pointer none), 1, 8) := by kernel_rfl
instance : TI Tryd.prog 115 (.pointer 111) 1 8 (.pointer none) := ⟨Tryd.underlying115, iz115⟩
instance : TZ Tryd.prog 115 false 1 8 (.pointer none) := ⟨iz115, tz_agg Tryd.underlying115 rfl⟩
theorem iz116 : (Tryd.prog.info? 116).map (fun i => (i.zero, i.size, i.bytes)) = some (some .nilFunc, 1, 8) := by kernel_rfl
instance : TZ Tryd.prog 116 false 1 8 .nilFunc := ⟨iz116, tz_agg Tryd.underlying116 rfl⟩
theorem iz117 : (Tryd.prog.info? 117).map (fun i => (i.zero, i.size, i.bytes)) = some (some .nilFunc, 1, 8) := by kernel_rfl
instance : TZ Tryd.prog 117 false 1 8 .nilFunc := ⟨iz117, tz_agg Tryd.underlying117 rfl⟩
theorem iz118 : (Tryd.prog.info? 118).map (fun i => (i.zero, i.size, i.bytes)) = some (some .nilFunc, 1, 8) := by kernel_rfl
instance : TZ Tryd.prog 118 false 1 8 .nilFunc := ⟨iz118, tz_agg Tryd.underlying118 rfl⟩
theorem iz119 : (Tryd.prog.info? 119).map (fun i => (i.zero, i.size, i.bytes)) = some (some .nilFunc, 1, 8) := by kernel_rfl
instance : TZ Tryd.prog 119 false 1 8 .nilFunc := ⟨iz119, tz_agg Tryd.underlying119 rfl⟩
theorem iz120 : (Tryd.prog.info? 120).map (fun i => (i.zero, i.size, i.bytes)) = some (some (.pointer none), 1, 8) := by kernel_rfl
instance : TI Tryd.prog 120 .unsafePointer 1 8 (.pointer none) := ⟨Tryd.underlying120, iz120⟩
instance : TZ Tryd.prog 120 false 1 8 (.pointer none) := ⟨iz120, tz_agg Tryd.underlying120 rfl⟩
theorem iz121 : (Tryd.prog.info? 121).map (fun i => (i.zero, i.size, i.bytes)) = some (some .nilFunc, 1, 8) := by kernel_rfl
instance : TZ Tryd.prog 121 false 1 8 .nilFunc := ⟨iz121, tz_agg Tryd.underlying121 rfl⟩
theorem iz122 : (Tryd.prog.info? 122).map (fun i => (i.zero, i.size, i.bytes)) = some (some .nilFunc, 1, 8) := by kernel_rfl
instance : TZ Tryd.prog 122 false 1 8 .nilFunc := ⟨iz122, tz_agg Tryd.underlying122 rfl⟩
theorem iz123 : (Tryd.prog.info? 123).map (fun i => (i.zero, i.size, i.bytes)) = some (some .nilFunc, 1, 8) := by kernel_rfl
instance : TZ Tryd.prog 123 false 1 8 .nilFunc := ⟨iz123, tz_agg Tryd.underlying123 rfl⟩
theorem iz124 : (Tryd.prog.info? 124).map (fun i => (i.zero, i.size, i.bytes)) = some (some .nilFunc, 1, 8) := by kernel_rfl
instance : TZ Tryd.prog 124 false 1 8 .nilFunc := ⟨iz124, tz_agg Tryd.underlying124 rfl⟩
theorem iz125 : (Tryd.prog.info? 125).map (fun i => (i.zero, i.size, i.bytes)) = some (some .nilFunc, 1, 8) := by kernel_rfl
instance : TZ Tryd.prog 125 false 1 8 .nilFunc := ⟨iz125, tz_agg Tryd.underlying125 rfl⟩
theorem iz126 : (Tryd.prog.info? 126).map (fun i => (i.zero, i.size, i.bytes)) = some (some .nilFunc, 1, 8) := by kernel_rfl
instance : TZ Tryd.prog 126 false 1 8 .nilFunc := ⟨iz126, tz_agg Tryd.underlying126 rfl⟩
theorem iz128 : (Tryd.prog.info? 128).map (fun i => (i.zero, i.size, i.bytes)) = some (some .nilFunc, 1, 8) := by kernel_rfl
instance : TZ Tryd.prog 128 false 1 8 .nilFunc := ⟨iz128, tz_agg Tryd.underlying128 rfl⟩
theorem iz129 : (Tryd.prog.info? 129).map (fun i => (i.zero, i.size, i.bytes)) = some (some .nilFunc, 1, 8) := by kernel_rfl
instance : TZ Tryd.prog 129 false 1 8 .nilFunc := ⟨iz129, tz_agg Tryd.underlying129 rfl⟩
theorem iz130 : (Tryd.prog.info? 130).map (fun i => (i.zero, i.size, i.bytes)) = some (some .nilFunc, 1, 8) := by kernel_rfl
instance : TZ Tryd.prog 130 false 1 8 .nilFunc := ⟨iz130, tz_agg Tryd.underlying130 rfl⟩
theorem iz131 : (Tryd.prog.info? 131).map (fun i => (i.zero, i.size, i.bytes)) = some (some (.agg #[(.int .u8 0), (.int .u8 0), (.int .u8 0), (.int .u8 0), (.int .u8 0), (.int .u8 0), (.int .u8 0), (.int .u8 0), (.int .u8 0), (.int .u8 0), (.int .u8 0), (.int .u8 0), (.int .u8 0), (.int .u8 0), (.int .u8 0), (.int .u8 0), (.int .u8 0), (.int .u8 0), (.int .u8 0), (.int .u8 0), (.int .u8 0), (.int .u8 0), (.int .u8 0), (.int .u8 0)]), 24, 24) := by kernel_rfl
instance : TI Tryd.prog 131 (.array 24 5) 24 24 (.agg #[(.int .u8 0), (.int .u8 0), (.int .u8 0), (.int .u8 0), (.int .u8 0), (.int .u8 0), (.int .u8 0), (.int .u8 0), (.int .u8 0), (.int .u8 0), (.int .u8 0), (.int .u8 0), (.int .u8 0), (.int .u8 0), (.int .u8 0), (.int .u8 0), (.int .u8 0), (.int .u8 0), (.int .u8 0), (.int .u8 0), (.int .u8 0), (.int .u8 0), (.int .u8 0), (.int .u8 0)]) := ⟨Tryd.underlying131, iz131⟩
instance : TZ Tryd.prog 131 true 24 24 (.agg #[(.int .u8 0), (.int .u8 0), (.int .u8 0), (.int .u8 0), (.int .u8 0), (.int .u8 0), (.int .u8 0), (.int .u8 0), (.int .u8 0), (.int .u8 0), (.int .u8 0), (.int .u8 0), (.int .u8 0), (.int .u8 0), (.int .u8 0), (.int .u8 0), (.int .u8 0), (.int .u8 0), (.int .u8 0), (.int .u8 0), (.int .u8 0), (.int .u8 0), (.int .u8 0), (.int .u8 0)]) := ⟨iz131, tz_agg Tryd.underlying131 rfl⟩
theorem iz132 : (Tryd.prog.info? 132).map (fun i => (i.zero, i.size, i.bytes)) = some (some (.int .u64 0), 1, 8) := by kernel_rfl
instance : TI Tryd.prog 132 (.int .u64) 1 8 (.int .u64 0) := ⟨Tryd.underlying132, iz132⟩
instance : TZ Tryd.prog 132 false 1 8 (.int .u64 0) := ⟨iz132, tz_agg Tryd.underlying132 rfl⟩
theorem iz133 : (Tryd.prog.info? 133).map (fun i => (i.zero, i.size, i.bytes)) = some (some .nilFunc, 1, 8) := by kernel_rfl
instance : TZ Tryd.prog 133 false 1 8 .nilFunc := ⟨iz133, tz_agg Tryd.underlying133 rfl⟩
theorem iz134 : (Tryd.prog.info? 134).map (fun i => (i.zero, i.size, i.bytes)) = some (some .nilFunc, 1, 8) := by kernel_rfl
instance : TZ Tryd.prog 134 false 1 8 .nilFunc := ⟨iz134, tz_agg Tryd.underlying134 rfl⟩
theorem iz136 : (Tryd.prog.info? 136).map (fun i => (i.zero, i.size, i.bytes)) = some (some .nilFunc, 1, 8) := by kernel_rfl
instance : TZ Tryd.prog 136 false 1 8 .nilFunc := ⟨iz136, tz_agg Tryd.underlying136 rfl⟩
theorem iz137 : (Tryd.prog.info? 137).map (fun i => (i.zero, i.size, i.bytes)) = some (some (.int .i64 0), 1, 8) := by kernel_rfl
instance : TI Tryd.prog 137 (.int .i64) 1 8 (.int .i64 0) := ⟨Tryd.underlying137, iz137⟩
instance : TZ Tryd.prog 137 false 1 8 (.int .i64 0) := ⟨iz137, tz_agg Tryd.underlying137 rfl⟩
theorem iz139 : (Tryd.prog.info? 139).map (fun i => (i.zero, i.size, i.bytes)) = some (some .nilFunc, 1, 8) := by kernel_rfl
instance : TZ Tryd.prog 139 false 1 8 .nilFunc := ⟨iz139, tz_agg Tryd.underlying139 rfl⟩
theorem iz140 : (Tryd.prog.info? 140).map (fun i => (i.zero, i.size, i.bytes)) = some (some (.pointer none), 1, 8) := by kernel_rfl
instance : TI Tryd.prog 140 (.pointer 154) 1 8 (.pointer none) := ⟨Tryd.underlying140, iz140⟩
instance : TZ Tryd.prog 140 false 1 8 (.pointer none) := ⟨iz140, tz_agg Tryd.underlying140 rfl⟩
theorem iz141 : (Tryd.prog.info? 141).map (fun i => (i.zero, i.size, i.bytes)) = some (some .nilFunc, 1, 8) := by kernel_rfl
instance : TZ Tryd.prog 141 false 1 8 .nilFunc := ⟨iz141, tz_agg Tryd.underlying141 rfl⟩
theorem iz142 : (Tryd.prog.info? 142).map (fun i => (i.zero, i.size, i.bytes)) = some (some .nilFunc, 1, 8) := by kernel_rfl
instance : TZ Tryd.prog 142 false 1 8 .nilFunc := ⟨iz142, tz_agg Tryd.underlying142 rfl⟩
theorem iz143 : (Tryd.prog.info? 143).map (fun i => (i.zero, i.size, i.bytes)) = some (some .nilFunc, 1, 8) := by kernel_rfl
instance : TZ Tryd.prog 143 false 1 8 .nilFunc := ⟨iz143, tz_agg Tryd.underlying143 rfl⟩
theorem iz144 : (Tryd.prog.info? 144).map (fun i => (i.zero, i.size, i.bytes)) = some (some (.int .u64 0), 1, 8) := by kernel_rfl
instance : TI Tryd.prog 144 (.int .u64) 1 8 (.int .u64 0) := ⟨Tryd.underlying144, iz144⟩
instance : TZ Tryd.prog 144 false 1 8 (.int .u64 0) := ⟨iz144, tz_agg Tryd.underlying144 rfl⟩
theorem iz145 : (Tryd.prog.info? 145).map (fun i => (i.zero, i.size, i.bytes)) = some (some .nilFunc, 1, 8) := by kernel_rfl
instance : TZ Tryd.prog 145 false 1 8 .nilFunc := ⟨iz145, tz_agg Tryd.underlying145 rfl⟩
theorem iz146 : (Tryd.prog.info? 146).map (fun i => (i.zero, i.size, i.bytes)) = some (some .nilFunc, 1, 8) := by kernel_rfl
instance : TZ Tryd.prog 146 false 1 8 .nilFunc := ⟨iz146, tz_agg Tryd.underlying146 rfl⟩
theorem iz147 : (Tryd.prog.info? 147).map (fun i => (i.zero, i.size, i.bytes)) = some (some (.agg #[(.int .u64 0), (.int .u64 0), (.int .u64 0), (.int .u64 0), (.int .u64 0), (.int .u64 0), (.int .u64 0), (.int .u64 0), (.int .u64 0), (.int .u64 0), (.int .u64 0), (.int .u64 0), (.int .u64 0), (.int .u64 0), (.int .u64 0), (.int .u64 0), (.int .u64 0), (.int .u64 0), (.int .u64 0), (.int .u64 0)]), 20, 160) := by kernel_rfl
instance : TI Tryd.prog 147 (.array 20 132) 20 160 (.agg #[(.int .u64 0), (.int .u64 0), (.int .u64 0), (.int .u64 0), (.int .u64 0), (.int .u64 0), (.int .u64 0), (.int .u64 0), (.int .u64 0), (.int .u64 0), (.int .u64 0), (.int .u64 0), (.int .u64 0), (.int .u64 0), (.int .u64 0), (.int .u64 0), (.int .u64 0), (.int .u64 0), (.int .u64 0), (.int .u64 0)]) := ⟨Tryd.underlying147, iz147⟩
instance : TZ Tryd.prog 147 true 20 160 (.agg #[(.int .u64 0), (.int .u64 0), (.int .u64 0), (.int .u64 0), (.int .u64 0), (.int .u64 0), (.int .u64 0), (.int .u64 0), (.int .u64 0), (.int .u64 0), (.int .u64 0), (.int .u64 0), (.int .u64 0), (.int .u64 0), (.int .u64 0), (.int .u64 0), (.int .u64 0), (.int .u64 0), (.int .u64 0), (.int .u64 0)]) := ⟨iz147, tz_agg Tryd.underlying147 rfl⟩
theorem iz148 : (Tryd.prog.info? 148).map (fun i => (i.zero, i.size, i.bytes)) = some (some (.int .u32 0), 1, 4) := by kernel_rfl
instance : TI Tryd.prog 148 (.int .u32) 1 4 (.int .u32 0) := ⟨Tryd.underlying148, iz148⟩
instance : TZ Tryd.prog 148 false 1 4 (.int .u32 0) := ⟨iz148, tz_agg Tryd.underlying148 rfl⟩
theorem iz149 : (Tryd.prog.info? 149).map (fun i => (i.zero, i.size, i.bytes)) = some (some (.agg #[(.int .u8 0), (.int .u8 0), (.int .u8 0), (.int .u8 0), (.int .u8 0), (.int .u8 0), (.int .u8 0), (.int .u8 0), (.int .u8 0), (.int .u8 0), (.int .u8 0), (.int .u8 0), (.int .u8 0), (.int .u8 0), (.int .u8 0), (.int .u8 0), (.int .u8 0), (.int .u8 0), (.int .u8 0), (.int .u8 0), (.int .u8 0), (.int .u8 0), (.int .u8 0), (.int .u8 0), (.int .u8 0), (.int .u8 0), (.int .u8 0), (.int .u8 0), (.int .u8 0), (.int .u8 0), (.int .u8 0), (.int .u8 0), (.int .u8 0), (.int .u8 0), (.int .u8 0), (.int .u8 0), (.int .u8 0), (.int .u8 0), (.int .u8 0), (.int .u8 0), (.int .u8 0), (.int .u8 0), (.int .u8 0), (.int .u8 0), (.int .u8 0), (.int .u8 0), (.int .u8 0), (.int .u8 0), (.int .u8 0), (.int .u8 0), (.int .u8 0), (.int .u8 0), (.int .u8 0), (.int .u8 0), (.int .u8 0), (.int .u8 0), (.int .u8 0), (.int .u8 0), (.int .u8 0), (.int .u8 0), (.int .u8 0), (.int .u8 0), (.int .u8 0), (.int .u8 0), (.int .u8 0)]), 65, 65) := by kernel_rfl
instance : TI Tryd.prog 149 (.array 65 5) 65 65 (.agg #[(.int .u8 0), (.int .u8 0), (.int .u8 0), (.int .u8 0), (.int .u8 0), (.int .u8 0), (.int .u8 0), (.int .u8 0), (.int .u8 0), (.int .u8 0), (.int .u8 0), (.int .u8 0), (.int .u8 0), (.int .u8 0), (.int .u8 0), (.int .u8 0), (.int .u8 0), (.int .u8 0), (.int .u8 0), (.int .u8 0), (.int .u8 0), (.int .u8 0), (.int .u8 0), (.int .u8 0), (.int .u8 0), (.int .u8 0), (.int .u8 0), (.int .u8 0), (.int .u8 0), (.int .u8 0), (.int .u8 0), (.int .u8 0), (.int .u8 0), (.int .u8 0), (.int .u8 0), (.int .u8 0), (.int .u8 0), (.int .u8 0), (.int .u8 0), (.int .u8 0), (.int .u8 0), (.int .u8 0), (.int .u8 0), (.int .u8 0), (.int .u8 0), (.int .u8 0), (.int .u8 0), (.int .u8 0), (.int .u8 0), (.int .u8 0), (.int .u8 0), (.int .u8 0), (.int .u8 0), (.int .u8 0), (.int .u8 0), (.int .u8 0), (.int .u8 0), (.int .u8 0), (.int .u8 0), (.int .u8 0), (.int .u8 0), (.int .u8 0), (.int .u8 0), (.int .u8 0), (.int .u8 0)]) := ⟨Tryd.underlying149, iz149⟩
instance : TZ Tryd.prog 149 true 65 65 (.agg #[(.int .u8 0), (.int .u8 0), (.int .u8 0), (.int .u8 0), (.int .u8 0), (.int .u8 0), (.int .u8 0), (.int .u8 0), (.int .u8 0), (.int .u8 0), (.int .u8 0), (.int .u8 0), (.int .u8 0), (.int .u8 0), (.int .u8 0), (.int .u8 0), (.int .u8 0), (.int .u8 0), (.int .u8 0), (.int .u8 0), (.int .u8 0), (.int .u8 0), (.int .u8 0), (.int .u8 0), (.int .u8 0), (.int .u8 0), (.int .u8 0), (.int .u8 0), (.int .u8 0), (.int .u8 0), (.int .u8 0), (.int .u8 0), (.int .u8 0), (.int .u8 0), (.int .u8 0), (.int .u8 0), (.int .u8 0), (.int .u8 0), (.int .u8 0), (.int .u8 0), (.int .u8 0), (.int .u8 0), (.int .u8 0), (.int .u8 0), (.int .u8 0), (.int .u8 0), (.int .u8 0), (.int .u8 0), (.int .u8 0), (.int .u8 0), (.int .u8 0), (.int .u8 0), (.int .u8 0), (.int .u8 0), (.int .u8 0), (.int .u8 0), (.int .u8 0), (.int .u8 0), (.int .u8 0), (.int .u8 0), (.int .u8 0), (.int .u8 0), (.int .u8 0), (.int .u8 0), (.int .u8 0)]) := ⟨iz149, tz_agg Tryd.underlying149 rfl⟩
theorem iz150 : (Tryd.prog.info? 150).map (fun i => (i.zero, i.size, i.bytes)) = some (some .nilFunc, 1, 8) := by kernel_rfl
instance : TZ Tryd.prog 150 false 1 8 .nilFunc := ⟨iz150, tz_agg Tryd.underlying150 rfl⟩
theorem iz152 : (Tryd.prog.info? 152).map (fun i => (i.zero, i.size, i.bytes)) = some (some .nilFunc, 1, 8) := by kernel_rfl
instance : TZ Tryd.prog 152 false 1 8 .nilFunc := ⟨iz152, tz_agg Tryd.underlying152 rfl⟩
theorem iz153 : (Tryd.prog.info? 153).map (fun i => (i.zero, i.size, i.bytes)) = some (some (.agg #[(.string ⟨#[]⟩), (.string ⟨#[]⟩), .nilIface]), 3, 48) := by kernel_rfl
instance : TZ Tryd.prog 153 true 3 48 (.agg #[(.string ⟨#[]⟩), (.string ⟨#[]⟩), .nilIface]) := ⟨iz153, tz_agg Tryd.underlying153 rfl⟩
instance : FO Tryd.prog 153 0 0 1 := ⟨_, _, Tryd.underlying153, rfl, rfl, iz_size iz9, by decide⟩
instance : FO Tryd.prog 153 1 1 1 := ⟨_, _, Tryd.underlying153, rfl, rfl, iz_size iz9, by decide⟩
instance : FO Tryd.prog 153 2 2 1 := ⟨_, _, Tryd.underlying153, rfl, rfl, iz_size iz56, by decide⟩
instance : FT Tryd.prog 153 [(0, 1), (1, 1), (2, 1)] := ⟨_, Tryd.underlying153, .cons (iz_size iz9) (.cons (iz_size iz9) (.cons (iz_size iz56) (.nil)))⟩
theorem iz154 : (Tryd.prog.info? 154).map (fun i => (i.zero, i.size, i.bytes)) = some (some (.agg #[(.string ⟨#[]⟩), (.string ⟨#[]⟩), .nilIface]), 3, 48) := by kernel_rfl
instance : TZ Tryd.prog 154 true 3 48 (.agg #[(.string ⟨#[]⟩), (.string ⟨#[]⟩), .nilIface]) := ⟨iz154, tz_agg Tryd.underlying154 rfl⟩
instance : FO Tryd.prog 154 0 0 1 := ⟨_, _, Tryd.underlying154, rfl, rfl, iz_size iz9, by decide⟩
instance : FO Tryd.prog 154 1 1 1 := ⟨_, _, Tryd.underlying154, rfl, rfl, iz_size iz9, by decide⟩
instance : FO Tryd.prog 154 2 2 1 := ⟨_, _, Tryd.underlying154, rfl, rfl, iz_size iz56, by decide⟩
instance : FT Tryd.prog 154 [(0, 1), (1, 1), (2, 1)] := ⟨_, Tryd.underlying154, .cons (iz_size iz9) (.cons (iz_size iz9) (.cons (iz_size iz56) (.nil)))⟩
theorem iz155 : (Tryd.prog.info? 155).map (fun i => (i.zero, i.size, i.bytes)) = some (some .nilFunc, 1, 8) := by kernel_rfl
instance : TZ Tryd.prog 155 false 1 8 .nilFunc := ⟨iz155, tz_agg Tryd.underlying155 rfl⟩
theorem iz157 : (Tryd.prog.info? 157).map (fun i => (i.zero, i.size, i.bytes)) = some (some .nilFunc, 1, 8) := by kernel_rfl
instance : TZ Tryd.prog 157 false 1 8 .nilFunc := ⟨iz157, tz_agg Tryd.underlying157 rfl⟩
theorem iz158 : (Tryd.prog.info? 158).map (fun i => (i.zero, i.size, i.bytes)) = some (some (.agg #[(.int .u8 0), (.int .u8 0), (.int .u8 0), (.int .u8 0), (.int .u8 0), (.int .u8 0), (.int .u8 0), (.int .u8 0), (.int .u8 0), (.int .u8 0), (.int .u8 0), (.int .u8 0), (.int .u8 0), (.int .u8 0), (.int .u8 0), (.int .u8 0), (.int .u8 0), (.int .u8 0), (.int .u8 0), (.int .u8 0), (.int .u8 0), (.int .u8 0), (.int .u8 0), (.int .u8 0), (.int .u8 0), (.int .u8 0), (.int .u8 0), (.int .u8 0), (.int .u8 0), (.int .u8 0), (.int .u8 0), (.int .u8 0), (.int .u8 0), (.int .u8 0), (.int .u8 0), (.int .u8 0), (.int .u8 0), (.int .u8 0), (.int .u8 0), (.int .u8 0), (.int .u8 0), (.int .u8 0), (.int .u8 0), (.int .u8 0), (.int .u8 0), (.int .u8 0), (.int .u8 0), (.int .u8 0), (.int .u8 0), (.int .u8 0), (.int .u8 0), (.int .u8 0), (.int .u8 0), (.int .u8 0), (.int .u8 0), (.int .u8 0), (.int .u8 0), (.int .u8 0), (.int .u8 0), (.int .u8 0), (.int .u8 0), (.int .u8 0), (.int .u8 0), (.int .u8 0), (.int .u8 0), (.int .u8 0), (.int .u8 0), (.int .u8 0), (.int .u8 0), (.int .u8 0), (.int .u8 0), (.int .u8 0), (.int .u8 0), (.int .u8 0), (.int .u8 0), (.int .u8 0), (.int .u8 0), (.int .u8 0), (.int .u8 0), (.int .u8 0), (.int .u8 0), (.int .u8 0), (.int .u8 0), (.int .u8 0), (.int .u8 0), (.int .u8 0), (.int .u8 0), (.int .u8 0), (.int .u8 0), (.int .u8 0), (.int .u8 0), (.int .u8 0), (.int .u8 0), (.int .u8 0), (.int .u8 0), (.int .u8 0), (.int .u8 0), (.int .u8 0), (.int .u8 0), (.int .u8 0), (.int .u8 0), (.int .u8 0), (.int .u8 0), (.int .u8 0), (.int .u8 0), (.int .u8 0), (.int .u8 0), (.int .u8 0), (.int .u8 0), (.int .u8 0), (.int .u8 0), (.int .u8 0), (.int .u8 0), (.int .u8 0), (.int .u8 0), (.int .u8 0), (.int .u8 0), (.int .u8 0), (.int .u8 0), (.int .u8 0), (.int .u8 0), (.int .u8 0), (.int .u8 0), (.int .u8 0), (.int .u8 0), (.int .u8 0), (.int .u8 0), (.int .u8 0), (.int .u8 0), (.int .u8 0), (.int .u8 0), (.int .u8 0), (.int .u8 0), (.int .u8 0), (.int .u8 0), (.int .u8 0), (.int .u8 0), (.int .u8 0), (.int .u8 0), (.int .u8 0), (.int .u8 0), (.int .u8 0), (.int .u8 0), (.int .u8 0), (.int .u8 0), (.int .u8 0), (.int .u8 0), (.int .u8 0), (.int .u8 0), (.int .u8 0), (.int .u8 0), (.int .u8 0), (.int .u8 0), (.int .u8 0), (.int .u8 0), (.int .u8 0), (.int .u8 0), (.int .u8 0), (.int .u8 0), (.int .u8 0), (.int .u8 0), (.int .u8 0), (.int .u8 0), (.int .u8 0), (.int .u8 0), (.int .u8 0), (.int .u8 0), (.int .u8 0), (.int .u8 0), (.int .u8 0), (.int .u8 0), (.int .u8 0), (.int .u8 0), (.int .u8 0), (.int .u8 0), (.int .u8 0), (.int .u8 0), (.int .u8 0), (.int .u8 0), (.int .u8 0), (.int .u8 0), (.int .u8 0), (.int .u8 0), (.int .u8 0), (.int .u8 0), (.int .u8 0), (.int .u8 0), (.int .u8 0), (.int .u8 0), (.int .u8 0), (.int .u8 0), (.int .u8 0), (.int .u8 0), (.int .u8 0), (.int .u8 0), (.int .u8 0), (.int .u8 0), (.int .u8 0), (.int .u8 0), (.int .u8 0), (.int .u8 0), (.int .u8 0), (.int .u8 0), (.int .u8 0), (.int .u8 0), (.int .u8 0), (.int .u8 0), (.int .u8 0), (.int .u8 0), (.int .u8 0), (.int .u8 0), (.int .u8 0), (.int .u8 0), (.int .u8 0), (.int .u8 0), (.int .u8 0), (.int .u8 0), (.int .u8 0), (.int .u8 0), (.int .u8 0), (.int .u8 0), (.int .u8 0), (.int .u8 0), (.int .u8 0), (.int .u8 0), (.int .u8 0), (.int .u8 0), (.int .u8 0), (.int .u8 0), (.int .u8 0), (.int .u8 0), (.int .u8 0), (.int .u8 0), (.int .u8 0), (.int .u8 0), (.int .u8 0), (.int .u8 0), (.int .u8 0), (.int .u8 0), (.int .u8 0), (.int .u8 0), (.int .u8 0), (.int .u8 0), (.int .u8 0), (.int .u8 0), (.int .u8 0), (.int .u8 0), (.int .u8 0), (.int .u8 0), (.int .u8 0), (.int .u8 0), (.int .u8 0), (.int .u8 0), (.int .u8 0), (.int .u8 0), (.int .u8 0)]), 256, 256) := by kernel_rfl
instance : TI Tryd.prog 158 (.array 256 5) 256 256 (.agg #[(.int .u8 0), (.int .u8 0), (.int .u8 0), (.int .u8 0), (.int .u8 0), (.int .u8 0), (.int .u8 0), (.int .u8 0), (.int .u8 0), (.int .u8 0), (.int .u8 0), (.int .u8 0), (.int .u8 0), (.int .u8 0), (.int .u8 0), (.int .u8 0), (.int .u8 0), (.int .u8 0), (.int .u8 0), (.int .u8 0), (.int .u8 0), (.int .u8 0), (.int .u8 0), (.int .u8 0), (.int .u8 0), (.int .u8 0), (.int .u8 0), (.int .u8 0), (.int .u8 0), (.int .u8 0), (.int .u8 0), (.int .u8 0), (.int .u8 0), (.int .u8 0), (.int .u8 0), (.int .u8 0), (.int .u8 0), (.int .u8 0), (.int .u8 0), (.int .u8 0), (.int .u8 0), (.int .u8 0), (.int .u8 0), (.int .u8 0), (.int .u8 0), (.int .u8 0), (.int .u8 0), (.int .u8 0), (.int .u8 0), (.int .u8 0), (.int .u8 0), (.int .u8 0), (.int .u8 0), (.int .u8 0), (.int .u8 0), (.int .u8 0), (.int .u8 0), (.int .u8 0), (.int .u8 0), (.int .u8 0), (.int .u8 0), (.int .u8 0), (.int .u8 0), (.int .u8 0), (.int .u8 0), (.int .u8 0), (.int .u8 0), (.int .u8 0), (.int .u8 0), (.int .u8 0), (.int .u8 0), (.int .u8 0), (.int .u8 0), (.int .u8 0), (.int .u8 0), (.int .u8 0), (.int .u8 0), (.int .u8 0), (.int .u8 0), (.int .u8 0), (.int .u8 0), (.int .u8 0), (.int .u8 0), (.int .u8 0), (.int .u8 0), (.int .u8 0), (.int .u8 0), (.int .u8 0), (.int .u8 0), (.int .u8 0), (.int .u8 0), (.int .u8 0), (.int .u8 0), (.int .u8 0), (.int .u8 0), (.int .u8 0), (.int .u8 0), (.int .u8 0), (.int .u8 0), (.int .u8 0), (.int .u8 0), (.int .u8 0), (.int .u8 0), (.int .u8 0), (.int .u8 0), (.int .u8 0), (.int .u8 0), (.int .u8 0), (.int .u8 0), (.int .u8 0), (.int .u8 0), (.int .u8 0), (.int .u8 0), (.int .u8 0), (.int .u8 0), (.int .u8 0), (.int .u8 0), (.int .u8 0), (.int .u8 0), (.int .u8 0), (.int .u8 0), (.int .u8 0), (.int .u8 0), (.int .u8 0), (.int .u8 0), (.int .u8 0), (.int .u8 0), (.int .u8 0), (.int .u8 0), (.int .u8 0), (.int .u8 0), (.int .u8 0), (.int .u8 0), (.int .u8 0), (.int .u8 0), (.int .u8 0), (.int .u8 0), (.int .u8 0), (.int .u8 0), (.int .u8 0), (.int .u8 0), (.int .u8 0), (.int .u8 0), (.int .u8 0), (.int .u8 0), (.int .u8 0), (.int .u8 0), (.int .u8 0), (.int .u8 0), (.int .u8 0), (.int .u8 0), (.int .u8 0), (.int .u8 0), (.int .u8 0), (.int .u8 0), (.int .u8 0), (.int .u8 0), (.int .u8 0), (.int .u8 0), (.int .u8 0), (.int .u8 0), (.int .u8 0), (.int .u8 0), (.int .u8 0), (.int .u8 0), (.int .u8 0), (.int .u8 0), (.int .u8 0), (.int .u8 0), (.int .u8 0), (.int .u8 0), (.int .u8 0), (.int .u8 0), (.int .u8 0), (.int .u8 0), (.int .u8 0), (.int .u8 0), (.int .u8 0), (.int .u8 0), (.int .u8 0), (.int .u8 0), (.int .u8 0), (.int .u8 0), (.int .u8 0), (.int .u8 0), (.int .u8 0), (.int .u8 0), (.int .u8 0), (.int .u8 0), (.int .u8 0), (.int .u8 0), (.int .u8 0), (.int .u8 0), (.int .u8 0), (.int .u8 0), (.int .u8 0), (.int .u8 0), (.int .u8 0), (.int .u8 0), (.int .u8 0), (.int .u8 0), (.int .u8 0), (.int .u8 0), (.int .u8 0), (.int .u8 0), (.int .u8 0), (.int .u8 0), (.int .u8 0), (.int .u8 0), (.int .u8 0), (.int .u8 0), (.int .u8 0), (.int .u8 0), (.int .u8 0), (.int .u8 0), (.int .u8 0), (.int .u8 0), (.int .u8 0), (.int .u8 0), (.int .u8 0), (.int .u8 0), (.int .u8 0), (.int .u8 0), (.int .u8 0), (.int .u8 0), (.int .u8 0), (.int .u8 0), (.int .u8 0), (.int .u8 0), (.int .u8 0), (.int .u8 0), (.int .u8 0), (.int .u8 0), (.int .u8 0), (.int .u8 0), (.int .u8 0), (.int .u8 0), (.int .u8 0), (.int .u8 0), (.int .u8 0), (.int .u8 0), (.int .u8 0), (.int .u8 0), (.int .u8 0), (.int .u8 0), (.int .u8 0), (.int .u8 0), (.int .u8 0), (.int .u8 0), (.int .u8 0), (.int .u8 0), (.int .u8 0), (.int .u8 0), (.int .u8 0), (.int .u8 0), (.int .u8 0)]) := ⟨Tryd.underlying158, iz158⟩
instance : TZ Tryd.prog 158 true 256 256 (.agg #[(.int .u8 0), (.int .u8 0), (.int .u8 0), (.int .u8 0), (.int .u8 0), (.int .u8 0), (.int .u8 0), (.int .u8 0), (.int .u8 0), (.int .u8 0), (.int .u8 0), (.int .u8 0), (.int .u8 0), (.int .u8 0), (.int .u8 0), (.int .u8 0), (.int .u8 0), (.int .u8 0), (.int .u8 0), (.int .u8 0), (.int .u8 0), (.int .u8 0), (.int .u8 0), (.int .u8 0), (.int .u8 0), (.int .u8 0), (.int .u8 0), (.int .u8 0), (.int .u8 0), (.int .u8 0), (.int .u8 0), (.int .u8 0), (.int .u8 0), (.int .u8 0), (.int .u8 0), (.int .u8 0), (.int .u8 0), (.int .u8 0), (.int .u8 0), (.int .u8 0), (.int .u8 0), (.int .u8 0), (.int .u8 0), (.int .u8 0), (.int .u8 0), (.int .u8 0), (.int .u8 0), (.int .u8 0), (.int .u8 0), (.int .u8 0), (.int .u8 0), (.int .u8 0), (.int .u8 0), (.int .u8 0), (.int .u8 0), (.int .u8 0), (.int .u8 0), (.int .u8 0), (.int .u8 0), (.int .u8 0), (.int .u8 0), (.int .u8 0), (.int .u8 0), (.int .u8 0), (.int .u8 0), (.int .u8 0), (.int .u8 0), (.int .u8 0), (.int .u8 0), (.int .u8 0), (.int .u8 0), (.int .u8 0), (.int .u8 0), (.int .u8 0), (.int .u8 0), (.int .u8 0), (.int .u8 0), (.int .u8 0), (.int .u8 0), (.int .u8 0), (.int .u8 0), (.int .u8 0), (.int .u8 0), (.int .u8 0), (.int .u8 0), (.int .u8 0), (.int .u8 0), (.int .u8 0), (.int .u8 0), (.int .u8 0), (.int .u8 0), (.int .u8 0), (.int .u8 0), (.int .u8 0), (.int .u8 0), (.int .u8 0), (.int .u8 0), (.int .u8 0), (.int .u8 0), (.int .u8 0), (.int .u8 0), (.int .u8 0), (.int .u8 0), (.int .u8 0), (.int .u8 0), (.int .u8 0), (.int .u8 0), (.int .u8 0), (.int .u8 0), (.int .u8 0), (.int .u8 0), (.int .u8 0), (.int .u8 0), (.int .u8 0), (.int .u8 0), (.int .u8 0), (.int .u8 0), (.int .u8 0), (.int .u8 0), (.int .u8 0), (.int .u8 0), (.int .u8 0), (.int .u8 0), (.int .u8 0), (.int .u8 0), (.int .u8 0), (.int .u8 0), (.int .u8 0), (.int .u8 0), (.int .u8 0), (.int .u8 0), (.int .u8 0), (.int .u8 0), (.int .u8 0), (.int .u8 0), (.int .u8 0), (.int .u8 0), (.int .u8 0), (.int .u8 0), (.int .u8 0), (.int .u8 0), (.int .u8 0), (.int .u8 0), (.int .u8 0), (.int .u8 0), (.int .u8 0), (.int .u8 0), (.int .u8 0), (.int .u8 0), (.int .u8 0), (.int .u8 0), (.int .u8 0), (.int .u8 0), (.int .u8 0), (.int .u8 0), (.int .u8 0), (.int .u8 0), (.int .u8 0), (.int .u8 0), (.int .u8 0), (.int .u8 0), (.int .u8 0), (.int .u8 0), (.int .u8 0), (.int .u8 0), (.int .u8 0), (.int .u8 0), (.int .u8 0), (.int .u8 0), (.int .u8 0), (.int .u8 0), (.int .u8 0), (.int .u8 0), (.int .u8 0), (.int .u8 0), (.int .u8 0), (.int .u8 0), (.int .u8 0), (.int .u8 0), (.int .u8 0), (.int .u8 0), (.int .u8 0), (.int .u8 0), (.int .u8 0), (.int .u8 0), (.int .u8 0), (.int .u8 0), (.int .u8 0), (.int .u8 0), (.int .u8 0), (.int .u8 0), (.int .u8 0), (.int .u8 0), (.int .u8 0), (.int .u8 0), (.int .u8 0), (.int .u8 0), (.int .u8 0), (.int .u8 0), (.int .u8 0), (.int .u8 0), (.int .u8 0), (.int .u8 0), (.int .u8 0), (.int .u8 0), (.int .u8 0), (.int .u8 0), (.int .u8 0), (.int .u8 0), (.int .u8 0), (.int .u8 0), (.int .u8 0), (.int .u8 0), (.int .u8 0), (.int .u8 0), (.int .u8 0), (.int .u8 0), (.int .u8 0), (.int .u8 0), (.int .u8 0), (.int .u8 0), (.int .u8 0), (.int .u8 0), (.int .u8 0), (.int .u8 0), (.int .u8 0), (.int .u8 0), (.int .u8 0), (.int .u8 0), (.int .u8 0), (.int .u8 0), (.int .u8 0), (.int .u8 0), (.int .u8 0), (.int .u8 0), (.int .u8 0), (.int .u8 0), (.int .u8 0), (.int .u8 0), (.int .u8 0), (.int .u8 0), (.int .u8 0), (.int .u8 0), (.int .u8 0), (.int .u8 0), (.int .u8 0), (.int .u8 0), (.int .u8 0), (.int .u8 0), (.int .u8 0), (.int .u8 0), (.int .u8 0), (.int .u8 0), (.int .u8 0), (.int .u8 0), (.int .u8 0)]) := ⟨iz158, tz_agg Tryd.underlying158 rfl⟩
theorem iz159 : (Tryd.prog.info? 159).map (fun i => (i.zero, i.size, i.bytes)) = some (some (.agg #[(.int .u8 0), (.int .u8 0)]), 2, 2) := by kernel_rfl
instance : TZ Tryd.prog 159 true 2 2 (.agg #[(.int .u8 0), (.int .u8 0)]) := ⟨iz159, tz_agg Tryd.underlying159 rfl⟩
instance : FO Tryd.prog 159 0 0 1 := ⟨_, _, Tryd.underlying159, rfl, rfl, iz_size iz5, by decide⟩
instance : FO Tryd.prog 159 1 1 1 := ⟨_, _, Tryd.underlying159, rfl, rfl, iz_size iz5, by decide⟩
instance : FT Tryd.prog 159 [(0, 1), (1, 1)] := ⟨_, Tryd.underlying159, .cons (iz_size iz5) (.cons (iz_size iz5) (.nil))⟩
theorem iz160 : (Tryd.prog.info? 160).map (fun i => (i.zero, i.size, i.bytes)) = some (some (.agg #[(.int .u8 0), (.int .u8 0)]), 2, 2) := by kernel_rfl
instance : TZ Tryd.prog 160 true 2 2 (.agg #[(.int .u8 0), (.int .u8 0)]) := ⟨iz160, tz_agg Tryd.underlying160 rfl⟩
instance : FO Tryd.prog 160 0 0 1 := ⟨_, _, Tryd.underlying160, rfl, rfl, iz_size iz5, by decide⟩
instance : FO Tryd.prog 160 1 1 1 := ⟨_, _, Tryd.underlying160, rfl, rfl, iz_size iz5, by decide⟩
instance : FT Tryd.prog 160 [(0, 1), (1, 1)] := ⟨_, Tryd.underlying160, .cons (iz_size iz5) (.cons (iz_size iz5) (.nil))⟩
theorem iz161 : (Tryd.prog.info? 161).map (fun i => (i.zero, i.size, i.bytes)) = some (some (.agg #[(.int .u8 0), (.int .u8 0), (.int .u8 0), (.int .u8 0), (.int .u8 0), (.int .u8 0), (.int .u8 0), (.int .u8 0), (.int .u8 0), (.int .u8 0), (.int .u8 0), (.int .u8 0), (.int .u8 0), (.int .u8 0), (.int .u8 0), (.int .u8 0), (.int .u8 0), (.int .u8 0), (.int .u8 0), (.int .u8 0), (.int .u8 0), (.int .u8 0), (.int .u8 0), (.int .u8 0), (.int .u8 0), (.int .u8 0), (.int .u8 0), (.int .u8 0), (.int .u8 0), (.int .u8 0), (.int .u8 0), (.int .u8 0)]), 32, 32) := by kernel_rfl
instance : TI Tryd.prog 161 (.array 16 160) 32 32 (.agg #[(.int .u8 0), (.int .u8 0), (.int .u8 0), (.int .u8 0), (.int .u8 0), (.int .u8 0), (.int .u8 0), (.int .u8 0), (.int .u8 0), (.int .u8 0), (.int .u8 0), (.int .u8 0), (.int .u8 0), (.int .u8 0), (.int .u8 0), (.int .u8 0), (.int .u8 0), (.int .u8 0), (.int .u8 0), (.int .u8 0), (.int .u8 0), (.int .u8 0), (.int .u8 0), (.int .u8 0), (.int .u8 0), (.int .u8 0), (.int .u8 0), (.int .u8 0), (.int .u8 0), (.int .u8 0), (.int .u8 0), (.int .u8 0)]) := ⟨Tryd.underlying161, iz161⟩
instance : TZ Tryd.prog 161 true 32 32 (.agg #[(.int .u8 0), (.int .u8 0), (.int .u8 0), (.int .u8 0), (.int .u8 0), (.int .u8 0), (.int .u8 0), (.int .u8 0), (.int .u8 0), (.int .u8 0), (.int .u8 0), (.int .u8 0), (.int .u8 0), (.int .u8 0), (.int .u8 0), (.int .u8 0), (.int .u8 0), (.int .u8 0), (.int .u8 0), (.int .u8 0), (.int .u8 0), (.int .u8 0), (.int .u8 0), (.int .u8 0), (.int .u8 0), (.int .u8 0), (.int .u8 0), (.int .u8 0), (.int .u8 0), (.int .u8 0), (.int .u8 0), (.int .u8 0)]) := ⟨iz161, tz_agg Tryd.underlying161 rfl⟩
theorem iz162 : (Tryd.prog.info? 162).map (fun i => (i.zero, i.size, i.bytes)) = some (some .nilFunc, 1, 8) := by kernel_rfl
instance : TZ Tryd.prog 162 false 1 8 .nilFunc := ⟨iz162, tz_agg Tryd.underlying162 rfl⟩
theorem iz163 : (Tryd.prog.info? 163).map (fun i => (i.zero, i.size, i.bytes)) = some (some .nilFunc, 1, 8) := by kernel_rfl
instance : TZ Tryd.prog 163 false 1 8 .nilFunc := ⟨iz163, tz_agg Tryd.underlying163 rfl⟩
theorem iz164 : (Tryd.prog.info? 164).map (fun i => (i.zero, i.size, i.bytes)) = some (some (.pointer none), 1, 8) := by kernel_rfl
instance : TI Tryd.prog 164 (.pointer 166) 1 8 (.pointer none) := ⟨Tryd.underlying164, iz164⟩
instance : TZ Tryd.prog 164 false 1 8 (.pointer none) := ⟨iz164, tz_agg Tryd.underlying164 rfl⟩
theorem iz165 : (Tryd.prog.info? 165).map (fun i => (i.zero, i.size, i.bytes)) = some (some (.agg #[(.string ⟨#[]⟩)]), 1, 16) := by kernel_rfl
instance : TZ Tryd.prog 165 true 1 16 (.agg #[(.string ⟨#[]⟩)]) := ⟨iz165, tz_agg Tryd.underlying165 rfl⟩
instance : FO Tryd.prog 165 0 0 1 := ⟨_, _, Tryd.underlying165, rfl, rfl, iz_size iz9, by decide⟩
instance : FT Tryd.prog 165 [(0, 1)] := ⟨_, Tryd.underlying165, .cons (iz_size iz9) (.nil)⟩
theorem iz166 : (Tryd.prog.info? 166).map (fun i => (i.zero, i.size, i.bytes)) = some (some (.agg #[(.string ⟨#[]⟩)]), 1, 16) := by kernel_rfl
instance : TZ Tryd.prog 166 true 1 16 (.agg #[(.string ⟨#[]⟩)]) := ⟨iz166, tz_agg Tryd.underlying166 rfl⟩
instance : FO Tryd.prog 166 0 0 1 := ⟨_, _, Tryd.underlying166, rfl, rfl, iz_size iz9, by decide⟩
instance : FT Tryd.prog 166 [(0, 1)] := ⟨_, Tryd.underlying166, .cons (iz_size iz9) (.nil)⟩
theorem iz167 : (Tryd.prog.info? 167).map (fun i => (i.zero, i.size, i.bytes)) = some (some (.agg #[(.int .u8 0), (.int .u8 0), (.int .u8 0), (.int .u8 0), (.int .u8 0), (.int .u8 0), (.int .u8 0), (.int .u8 0), (.int .u8 0), (.int .u8 0), (.int .u8 0), (.int .u8 0), (.int .u8 0), (.int .u8 0), (.int .u8 0), (.int .u8 0), (.int .u8 0), (.int .u8 0), (.int .u8 0), (.int .u8 0), (.int .u8 0), (.int .u8 0), (.int .u8 0), (.int .u8 0), (.int .u8 0), (.int .u8 0), (.int .u8 0), (.int .u8 0), (.int .u8 0), (.int .u8 0), (.int .u8 0), (.int .u8 0)]), 32, 32) := by kernel_rfl
instance : TI Tryd.prog 167 (.array 32 5) 32 32 (.agg #[(.int .u8 0), (.int .u8 0), (.int .u8 0), (.int .u8 0), (.int .u8 0), (.int .u8 0), (.int .u8 0), (.int .u8 0), (.int .u8 0), (.int .u8 0), (.int .u8 0), (.int .u8 0), (.int .u8 0), (.int .u8 0), (.int .u8 0), (.int .u8 0), (.int .u8 0), (.int .u8 0), (.int .u8 0), (.int .u8 0), (.int .u8 0), (.int .u8 0), (.int .u8 0), (.int .u8 0), (.int .u8 0), (.int .u8 0), (.int .u8 0), (.int .u8 0), (.int .u8 0), (.int .u8 0), (.int .u8 0), (.int .u8 0)]) := ⟨Tryd.underlying167, iz167⟩
instance : TZ Tryd.prog 167 true 32 32 (.agg #[(.int .u8 0), (.int .u8 0), (.int .u8 0), (.int .u8 0), (.int .u8 0), (.int .u8 0), (.int .u8 0), (.int .u8 0), (.int .u8 0), (.int .u8 0), (.int .u8 0), (.int .u8 0), (.int .u8 0), (.int .u8 0), (.int .u8 0), (.int .u8 0), (.int .u8 0), (.int .u8 0), (.int .u8 0), (.int .u8 0), (.int .u8 0), (.int .u8 0), (.int .u8 0), (.int .u8 0), (.int .u8 0), (.int .u8 0), (.int .u8 0), (.int .u8 0), (.int .u8 0), (.int .u8 0), (.int .u8 0), (.int .u8 0)]) := ⟨iz167, tz_agg Tryd.underlying167 rfl⟩
theorem iz168 : (Tryd.prog.info? 168).map (fun i => (i.zero, i.size, i.bytes)) = some (some (.agg #[(.int .u8 0), (.int .u8 0), (.int .u8 0), (.int .u8 0), (.int .u8 0), (.int .u8 0), (.int .u8 0), (.int .u8 0), (.int .u8 0), (.int .u8 0), (.int .u8 0), (.int .u8 0), (.int .u8 0), (.int .u8 0), (.int .u8 0), (.int .u8 0), (.int .u8 0), (.int .u8 0), (.int .u8 0), (.int .u8 0), (.int .u8 0), (.int .u8 0), (.int .u8 0), (.int .u8 0), (.int .u8 0), (.int .u8 0), (.int .u8 0), (.int .u8 0), (.int .u8 0), (.int .u8 0), (.int .u8 0), (.int .u8 0), (.int .u8 0), (.int .u8 0), (.int .u8 0), (.int .u8 0), (.int .u8 0), (.int .u8 0), (.int .u8 0), (.int .u8 0), (.int .u8 0), (.int .u8 0), (.int .u8 0), (.int .u8 0), (.int .u8 0), (.int .u8 0), (.int .u8 0), (.int .u8 0), (.int .u8 0), (.int .u8 0), (.int .u8 0), (.int .u8 0), (.int .u8 0), (.int .u8 0), (.int .u8 0), (.int .u8 0), (.int .u8 0), (.int .u8 0), (.int .u8 0), (.int .u8 0), (.int .u8 0), (.int .u8 0), (.int .u8 0), (.int .u8 0)]), 64, 64) := by kernel_rfl
instance : TI Tryd.prog 168 (.array 64 5) 64 64 (.agg #[(.int .u8 0), (.int .u8 0), (.int .u8 0), (.int .u8 0), (.int .u8 0), (.int .u8 0), (.int .u8 0), (.int .u8 0), (.int .u8 0), (.int .u8 0), (.int .u8 0), (.int .u8 0), (.int .u8 0), (.int .u8 0), (.int .u8 0), (.int .u8 0), (.int .u8 0), (.int .u8 0), (.int .u8 0), (.int .u8 0), (.int .u8 0), (.int .u8 0), (.int .u8 0), (.int .u8 0), (.int .u8 0), (.int .u8 0), (.int .u8 0), (.int .u8 0), (.int .u8 0), (.int .u8 0), (.int .u8 0), (.int .u8 0), (.int .u8 0), (.int .u8 0), (.int .u8 0), (.int .u8 0), (.int .u8 0), (.int .u8 0), (.int .u8 0), (.int .u8 0), (.int .u8 0), (.int .u8 0), (.int .u8 0), (.int .u8 0), (.int .u8 0), (.int .u8 0), (.int .u8 0), (.int .u8 0), (.int .u8 0), (.int .u8 0), (.int .u8 0), (.int .u8 0), (.int .u8 0), (.int .u8 0), (.int .u8 0), (.int .u8 0), (.int .u8 0), (.int .u8 0), (.int .u8 0), (.int .u8 0), (.int .u8 0), (.int .u8 0), (.int .u8 0), (.int .u8 0)]) := ⟨Tryd.underlying168, iz168⟩
instance : TZ Tryd.prog 168 true 64 64 (.agg #[(.int .u8 0), (.int .u8 0), (.int .u8 0), (.int .u8 0), (.int .u8 0), (.int .u8 0), (.int .u8 0), (.int .u8 0), (.int .u8 0), (.int .u8 0), (.int .u8 0), (.int .u8 0), (.int .u8 0), (.int .u8 0), (.int .u8 0), (.int .u8 0), (.int .u8 0), (.int .u8 0), (.int .u8 0), (.int .u8 0), (.int .u8 0), (.int .u8 0), (.int .u8 0), (.int .u8 0), (.int .u8 0), (.int .u8 0), (.int .u8 0), (.int .u8 0), (.int .u8 0), (.int .u8 0), (.int .u8 0), (.int .u8 0), (.int .u8 0), (.int .u8 0), (.int .u8 0), (.int .u8 0), (.int .u8 0), (.int .u8 0), (.int .u8 0), (.int .u8 0), (.int .u8 0), (.int .u8 0), (.int .u8 0), (.int .u8 0), (.int .u8 0), (.int .u8 0), (.int .u8 0), (.int .u8 0), (.int .u8 0), (.int .u8 0), (.int .u8 0), (.int .u8 0), (.int .u8 0), (.int .u8 0), (.int .u8 0), (.int .u8 0), (.int .u8 0), (.int .u8 0), (.int .u8 0), (.int .u8 0), (.int .u8 0), (.int .u8 0), (.int .u8 0), (.int .u8 0)]) := ⟨iz168, tz_agg Tryd.underlying168 rfl⟩
theorem iz169 : (Tryd.prog.info? 169).map (fun i => (i.zero, i.size, i.bytes)) = some (some (.agg #[(.pointer none), (.pointer none), (.pointer none), (.string ⟨#[]⟩)]), 4, 40) := by kernel_rfl
instance : TZ Tryd.prog 169 true 4 40 (.agg #[(.pointer none), (.pointer none), (.pointer none), (.string ⟨#[]⟩)]) := ⟨iz169, tz_agg Tryd.underlying169 rfl⟩
instance : FO Tryd.prog 169 0 0 1 := ⟨_, _, Tryd.underlying169, rfl, rfl, iz_size iz17, by decide⟩
instance : FO Tryd.prog 169 1 1 1 := ⟨_, _, Tryd.underlying169, rfl, rfl, iz_size iz17, by decide⟩
instance : FO Tryd.prog 169 2 2 1 := ⟨_, _, Tryd.underlying169, rfl, rfl, iz_size iz17, by decide⟩
instance : FO Tryd.prog 169 3 3 1 := ⟨_, _, Tryd.underlying169, rfl, rfl, iz_size iz9, by decide⟩
instance : FT Tryd.prog 169 [(0, 1), (1, 1), (2, 1), (3, 1)] := ⟨_, Tryd.underlying169, .cons (iz_size iz17) (.cons (iz_size iz17) (.cons (iz_size iz17) (.cons (iz_size iz9) (.nil))))⟩
theorem iz170 : (Tryd.prog.info? 170).map (fun i => (i.zero, i.size, i.bytes)) = some (some (.agg #[(.pointer none), (.pointer none), (.pointer none), (.string ⟨#[]⟩)]), 4, 40) := by kernel_rfl
instance : TZ Tryd.prog 170 true 4 40 (.agg #[(.pointer none), (.pointer none), (.pointer none), (.string ⟨#[]⟩)]) := ⟨iz170, tz_agg Tryd.underlying170 rfl⟩
instance : FO Tryd.prog 170 0 0 1 := ⟨_, _, Tryd.underlying170, rfl, rfl, iz_size iz17, by decide⟩
instance : FO Tryd.prog 170 1 1 1 := ⟨_, _, Tryd.underlying170, rfl, rfl, iz_size iz17, by decide⟩
instance : FO Tryd.prog 170 2 2 1 := ⟨_, _, Tryd.underlying170, rfl, rfl, iz_size iz17, by decide⟩
instance : FO Tryd.prog 170 3 3 1 := ⟨_, _, Tryd.underlying170, rfl, rfl, iz_size iz9, by decide⟩
instance : FT Tryd.prog 170 [(0, 1), (1, 1), (2, 1), (3, 1)] := ⟨_, Tryd.underlying170, .cons (iz_size iz17) (.cons (iz_size iz17) (.cons (iz_size iz17) (.cons (iz_size iz9) (.nil))))⟩
theorem iz171 : (Tryd.prog.info? 171).map (fun i => (i.zero, i.size, i.bytes)) = some (some (.agg #[]), 0, 0) := by kernel_rfl
instance : TI Tryd.prog 171 (.array 0 16) 0 0 (.agg #[]) := ⟨Tryd.underlying171, iz171⟩
instance : TZ Tryd.prog 171 true 0 0 (.agg #[]) := ⟨iz171, tz_agg Tryd.underlying171 rfl⟩
theorem iz172 : (Tryd.prog.info? 172).map (fun i => (i.zero, i.size, i.bytes)) = some (some (.agg #[]), 0, 0) := by kernel_rfl
instance : TZ Tryd.prog 172 true 0 0 (.agg #[]) := ⟨iz172, tz_agg Tryd.underlying172 rfl⟩
theorem iz173 : (Tryd.prog.info? 173).map (fun i => (i.zero, i.size, i.bytes)) = some (some (.agg #[]), 0, 0) := by kernel_rfl
instance : TZ Tryd.prog 173 true 0 0 (.agg #[]) := ⟨iz173, tz_agg Tryd.underlying173 rfl⟩
theorem iz174 : (Tryd.prog.info? 174).map (fun i => (i.zero, i.size, i.bytes)) = some (some .nilFunc, 1, 8) := by kernel_rfl
instance : TZ Tryd.prog 174 false 1 8 .nilFunc := ⟨iz174, tz_agg Tryd.underlying174 rfl⟩
theorem iz175 : (Tryd.prog.info? 175).map (fun i => (i.zero, i.size, i.bytes)) = some (some (.int .u8 0), 1, 1) := by kernel_rfl
instance : TI Tryd.prog 175 (.int .u8) 1 1 (.int .u8 0) := ⟨Tryd.underlying175, iz175⟩
instance : TZ Tryd.prog 175 false 1 1 (.int .u8 0) := ⟨iz175, tz_agg Tryd.underlying175 rfl⟩
theorem iz176 : (Tryd.prog.info? 176).map (fun i => (i.zero, i.size, i.bytes)) = some (some (.int .u8 0), 1, 1) := by kernel_rfl
instance : TI Tryd.prog 176 (.int .u8) 1 1 (.int .u8 0) := ⟨Tryd.underlying176, iz176⟩
instance : TZ Tryd.prog 176 false 1 1 (.int .u8 0) := ⟨iz176, tz_agg Tryd.underlying176 rfl⟩
theorem iz177 : (Tryd.prog.info? 177).map (fun i => (i.zero, i.size, i.bytes)) = some (some .nilFunc, 1, 8) := by kernel_rfl
instance : TZ Tryd.prog 177 false 1 8 .nilFunc := ⟨iz177, tz_agg Tryd.underlying177 rfl⟩
theorem iz178 : (Tryd.prog.info? 178).map (fun i => (i.zero, i.size, i.bytes)) = some (some (.int .i32 0), 1, 4) := by kernel_rfl
instance : TI Tryd.prog 178 (.int .i32) 1 4 (.int .i32 0) := ⟨Tryd.underlying178, iz178⟩
instance : TZ Tryd.prog 178 false 1 4 (.int .i32 0) := ⟨iz178, tz_agg Tryd.underlying178 rfl⟩
theorem iz179 : (Tryd.prog.info? 179).map (fun i => (i.zero, i.size, i.bytes)) = some (some (.int .i32 0), 1, 4) := by kernel_rfl
instance : TI Tryd.prog 179 (.int .i32) 1 4 (.int .i32 0) := ⟨Tryd.underlying179, iz179⟩
instance : TZ Tryd.prog 179 false 1 4 (.int .i32 0) := ⟨iz179, tz_agg Tryd.underlying179 rfl⟩
theorem iz180 : (Tryd.prog.info? 180).map (fun i => (i.zero, i.size, i.bytes)) = some (some (.agg #[(.int .u64 0), (.int .u64 0), (.int .u32 0), (.int .u8 0), (.int .u8 0), (.int .u8 0), (.int .u8 0), .nilFunc, (.pointer none), (.int .i32 0), (.int .i32 0)]), 11, 48) := by kernel_rfl
instance : TZ Tryd.prog 180 true 11 48 (.agg #[(.int .u64 0), (.int .u64 0), (.int .u32 0), (.int .u8 0), (.int .u8 0), (.int .u8 0), (.int .u8 0), .nilFunc, (.pointer none), (.int .i32 0), (.int .i32 0)]) := ⟨iz180, tz_agg Tryd.underlying180 rfl⟩
instance : FO Tryd.prog 180 0 0 1 := ⟨_, _, Tryd.underlying180, rfl, rfl, iz_size iz12, by decide⟩
instance : FO Tryd.prog 180 1 1 1 := ⟨_, _, Tryd.underlying180, rfl, rfl, iz_size iz12, by decide⟩
instance : FO Tryd.prog 180 2 2 1 := ⟨_, _, Tryd.underlying180, rfl, rfl, iz_size iz148, by decide⟩
instance : FO Tryd.prog 180 3 3 1 := ⟨_, _, Tryd.underlying180, rfl, rfl, iz_size iz175, by decide⟩
instance : FO Tryd.prog 180 4 4 1 := ⟨_, _, Tryd.underlying180, rfl, rfl, iz_size iz5, by decide⟩
instance : FO Tryd.prog 180 5 5 1 := ⟨_, _, Tryd.underlying180, rfl, rfl, iz_size iz5, by decide⟩
instance : FO Tryd.prog 180 6 6 1 := ⟨_, _, Tryd.underlying180, rfl, rfl, iz_size iz176, by decide⟩
instance : FO Tryd.prog 180 7 7 1 := ⟨_, _, Tryd.underlying180, rfl, rfl, iz_size iz177, by decide⟩
instance : FO Tryd.prog 180 8 8 1 := ⟨_, _, Tryd.underlying180, rfl, rfl, iz_size iz102, by decide⟩
instance : FO Tryd.prog 180 9 9 1 := ⟨_, _, Tryd.underlying180, rfl, rfl, iz_size iz178, by decide⟩
instance : FO Tryd.prog 180 10 10 1 := ⟨_, _, Tryd.underlying180, rfl, rfl, iz_size iz179, by decide⟩
instance : FT Tryd.prog 180 [(0, 1), (1, 1), (2, 1), (3, 1), (4, 1), (5, 1), (6, 1), (7, 1), (8, 1), (9, 1), (10, 1)] := ⟨_, Tryd.underlying180, .cons (iz_size iz12) (.cons (iz_size iz12) (.cons (iz_size iz148) (.cons (iz_size iz175) (.cons (iz_size iz5) (.cons (iz_size iz5) (.cons (iz_size iz176) (.cons (iz_size iz177) (.cons (iz_size iz102) (.cons (iz_size iz178) (.cons (iz_size iz179) (.nil)))))))))))⟩
theorem iz181 : (Tryd.prog.info? 181).map (fun i => (i.zero, i.size, i.bytes)) = some (some (.agg #[(.int .u64 0), (.int .u64 0), (.int .u32 0), (.int .u8 0), (.int .u8 0), (.int .u8 0), (.int .u8 0), .nilFunc, (.pointer none), (.int .i32 0), (.int .i32 0)]), 11, 48) := by kernel_rfl
instance : TZ Tryd.prog 181 true 11 48 (.agg #[(.int .u64 0), (.int .u64 0), (.int .u32 0), (.int .u8 0), (.int .u8 0), (.int .u8 0), (.int .u8 0), .nilFunc, (.pointer none), (.int .i32 0), (.int .i32 0)]) := ⟨iz181, tz_agg Tryd.underlying181 rfl⟩
instance : FO Tryd.prog 181 0 0 1 := ⟨_, _, Tryd.underlying181, rfl, rfl, iz_size iz12, by decide⟩
instance : FO Tryd.prog 181 1 1 1 := ⟨_, _, Tryd.underlying181, rfl, rfl, iz_size iz12, by decide⟩
instance : FO Tryd.prog 181 2 2 1 := ⟨_, _, Tryd.underlying181, rfl, rfl, iz_size iz148, by decide⟩
instance : FO Tryd.prog 181 3 3 1 := ⟨_, _, Tryd.underlying181, rfl, rfl, iz_size iz175, by decide⟩
instance : FO Tryd.prog 181 4 4 1 := ⟨_, _, Tryd.underlying181, rfl, rfl, iz_size iz5, by decide⟩
instance : FO Tryd.prog 181 5 5 1 := ⟨_, _, Tryd.underlying181, rfl, rfl, iz_size iz5, by decide⟩
instance : FO Tryd.prog 181 6 6 1 := ⟨_, _, Tryd.underlying181, rfl, rfl, iz_size iz176, by decide⟩
instance : FO Tryd.prog 181 7 7 1 := ⟨_, _, Tryd.underlying181, rfl, rfl, iz_size iz177, by decide⟩
instance : FO Tryd.prog 181 8 8 1 := ⟨_, _, Tryd.underlying181, rfl, rfl, iz_size iz102, by decide⟩
instance : FO Tryd.prog 181 9 9 1 := ⟨_, _, Tryd.underlying181, rfl, rfl, iz_size iz178, by decide⟩
instance : FO Tryd.prog 181 10 10 1 := ⟨_, _, Tryd.underlying181, rfl, rfl, iz_size iz179, by decide⟩
instance : FT Tryd.prog 181 [(0, 1), (1, 1), (2, 1), (3, 1), (4, 1), (5, 1), (6, 1), (7, 1), (8, 1), (9, 1), (10, 1)] := ⟨_, Tryd.underlying181, .cons (iz_size iz12) (.cons (iz_size iz12) (.cons (iz_size iz148) (.cons (iz_size iz175) (.cons (iz_size iz5) (.cons (iz_size iz5) (.cons (iz_size iz176) (.cons (iz_size iz177) (.cons (iz_size iz102) (.cons (iz_size iz178) (.cons (iz_size iz179) (.nil)))))))))))⟩
theorem iz182 : (Tryd.prog.info? 182).map (fun i => (i.zero, i.size, i.bytes)) = some (some (.agg #[(.string ⟨#[]⟩), (.string ⟨#[]⟩), (.string ⟨#[]⟩), (.bool false)]), 4, 56) := by kernel_rfl
instance : TZ Tryd.prog 182 true 4 56 (.agg #[(.string ⟨#[]⟩), (.string ⟨#[]⟩), (.string ⟨#[]⟩), (.bool false)]) := ⟨iz182, tz_agg Tryd.underlying182 rfl⟩
instance : FO Tryd.prog 182 0 0 1 := ⟨_, _, Tryd.underlying182, rfl, rfl, iz_size iz9, by decide⟩
instance : FO Tryd.prog 182 1 1 1 := ⟨_, _, Tryd.underlying182, rfl, rfl, iz_size iz9, by decide⟩
instance : FO Tryd.prog 182 2 2 1 := ⟨_, _, Tryd.underlying182, rfl, rfl, iz_size iz9, by decide⟩
instance : FO Tryd.prog 182 3 3 1 := ⟨_, _, Tryd.underlying182, rfl, rfl, iz_size iz4, by decide⟩
instance : FT Tryd.prog 182 [(0, 1), (1, 1), (2, 1), (3, 1)] := ⟨_, Tryd.underlying182, .cons (iz_size iz9) (.cons (iz_size iz9) (.cons (iz_size iz9) (.cons (iz_size iz4) (.nil))))⟩
theorem iz183 : (Tryd.prog.info? 183).map (fun i => (i.zero, i.size, i.bytes)) = some (some (.agg #[(.string ⟨#[]⟩), (.string ⟨#[]⟩), (.string ⟨#[]⟩), (.bool false)]), 4, 56) := by kernel_rfl
instance : TZ Tryd.prog 183 true 4 56 (.agg #[(.string ⟨#[]⟩), (.string ⟨#[]⟩), (.string ⟨#[]⟩), (.bool false)]) := ⟨iz183, tz_agg Tryd.underlying183 rfl⟩
instance : FO Tryd.prog 183 0 0 1 := ⟨_, _, Tryd.underlying183, rfl, rfl, iz_size iz9, by decide⟩
instance : FO Tryd.prog 183 1 1 1 := ⟨_, _, Tryd.underlying183, rfl, rfl, iz_size iz9, by decide⟩
instance : FO Tryd.prog 183 2 2 1 := ⟨_, _, Tryd.underlying183, rfl, rfl, iz_size iz9, by decide⟩
instance : FO Tryd.prog 183 3 3 1 := ⟨_, _, Tryd.underlying183, rfl, rfl, iz_size iz4, by decide⟩
instance : FT Tryd.prog 183 [(0, 1), (1, 1), (2, 1), (3, 1)] := ⟨_, Tryd.underlying183, .cons (iz_size iz9) (.cons (iz_size iz9) (.cons (iz_size iz9) (.cons (iz_size iz4) (.nil))))⟩
instance : EQ Tryd.prog 183 [.str, .str, .str, .bool] := ⟨by kernel_rfl, by kernel_rfl, _, Tryd.underlying183, (.str (by decide) rfl Tryd.underlying9 (.str (by decide) rfl Tryd.underlying9 (.str (by decide) rfl Tryd.underlying9 (.bool (by decide) rfl Tryd.underlying4 .nil))))⟩
theorem iz184 : (Tryd.prog.info? 184).map (fun i => (i.zero, i.size, i.bytes)) = some (some (.agg #[(.slice none 0 0), (.slice none 0 0)]), 2, 48) := by kernel_rfl
instance : TZ Tryd.prog 184 true 2 48 (.agg #[(.slice none 0 0), (.slice none 0 0)]) := ⟨iz184, tz_agg Tryd.underlying184 rfl⟩
instance : FO Tryd.prog 184 0 0 1 := ⟨_, _, Tryd.underlying184, rfl, rfl, iz_size iz72, by decide⟩
instance : FO Tryd.prog 184 1 1 1 := ⟨_, _, Tryd.underlying184, rfl, rfl, iz_size iz72, by decide⟩
instance : FT Tryd.prog 184 [(0, 1), (1, 1)] := ⟨_, Tryd.underlying184, .cons (iz_size iz72) (.cons (iz_size iz72) (.nil))⟩
theorem iz185 : (Tryd.prog.info? 185).map (fun i => (i.zero, i.size, i.bytes)) = some (some (.agg #[(.slice none 0 0), (.slice none 0 0)]), 2, 48) := by kernel_rfl
instance : TZ Tryd.prog 185 true 2 48 (.agg #[(.slice none 0 0), (.slice none 0 0)]) := ⟨iz185, tz_agg Tryd.underlying185 rfl⟩
instance : FO Tryd.prog 185 0 0 1 := ⟨_, _, Tryd.underlying185, rfl, rfl, iz_size iz72, by decide⟩
instance : FO Tryd.prog 185 1 1 1 := ⟨_, _, Tryd.underlying185, rfl, rfl, iz_size iz72, by decide⟩
instance : FT Tryd.prog 185 [(0, 1), (1, 1)] := ⟨_, Tryd.underlying185, .cons (iz_size iz72) (.cons (iz_size iz72) (.nil))⟩
theorem iz186 : (Tryd.prog.info? 186).map (fun i => (i.zero, i.size, i.bytes)) = some (some (.agg #[(.string ⟨#[]⟩), (.slice none 0 0), (.slice none 0 0), (.slice none 0 0), (.int .i64 0)]), 5, 96) := by kernel_rfl
instance : TZ Tryd.prog 186 true 5 96 (.agg #[(.string ⟨#[]⟩), (.slice none 0 0), (.slice none 0 0), (.slice none 0 0), (.int .i64 0)]) := ⟨iz186, tz_agg Tryd.underlying186 rfl⟩
instance : FO Tryd.prog 186 0 0 1 := ⟨_, _, Tryd.underlying186, rfl, rfl, iz_size iz9, by decide⟩
instance : FO Tryd.prog 186 1 1 1 := ⟨_, _, Tryd.underlying186, rfl, rfl, iz_size iz89, by decide⟩
instance : FO Tryd.prog 186 2 2 2 := ⟨_, _, Tryd.underlying186, rfl, rfl, iz_size iz185, by decide⟩
instance : FO Tryd.prog 186 3 4 1 := ⟨_, _, Tryd.underlying186, rfl, rfl, iz_size iz3, by decide⟩
instance : FT Tryd.prog 186 [(0, 1), (1, 1), (2, 2), (4, 1)] := ⟨_, Tryd.underlying186, .cons (iz_size iz9) (.cons (iz_size iz89) (.cons (iz_size iz185) (.cons (iz_size iz3) (.nil))))⟩
theorem iz187 : (Tryd.prog.info? 187).map (fun i => (i.zero, i.size, i.bytes)) = some (some (.agg #[(.string ⟨#[]⟩), (.slice none 0 0), (.slice none 0 0), (.slice none 0 0), (.int .i64 0)]), 5, 96) := by kernel_rfl
instance : TZ Tryd.prog 187 true 5 96 (.agg #[(.string ⟨#[]⟩), (.slice none 0 0), (.slice none 0 0), (.slice none 0 0), (.int .i64 0)]) := ⟨iz187, tz_agg Tryd.underlying187 rfl⟩
instance : FO Tryd.prog 187 0 0 1 := ⟨_, _, Tryd.underlying187, rfl, rfl, iz_size iz9, by decide⟩
instance : FO Tryd.prog 187 1 1 1 := ⟨_, _, Tryd.underlying187, rfl, rfl, iz_size iz89, by decide⟩
instance : FO Tryd.prog 187 2 2 2 := ⟨_, _, Tryd.underlying187, rfl, rfl, iz_size iz185, by decide⟩
instance : FO Tryd.prog 187 3 4 1 := ⟨_, _, Tryd.underlying187, rfl, rfl, iz_size iz3, by decide⟩
instance : FT Tryd.prog 187 [(0, 1), (1, 1), (2, 2), (4, 1)] := ⟨_, Tryd.underlying187, .cons (iz_size iz9) (.cons (iz_size iz89) (.cons (iz_size iz185) (.cons (iz_size iz3) (.nil))))⟩
instance : FN Tryd.prog 3 := ⟨_, Tryd.func3, by kernel_rfl, by kernel_rfl⟩ -- cloister/cloisterlaw09.ReplyLine
instance : FN Tryd.prog 4 := ⟨_, Tryd.func4, by kernel_rfl, by kernel_rfl⟩ -- cloister/cloisterlaw21.MeterCounts
instance : FN Tryd.prog 5 := ⟨_, Tryd.func5, by kernel_rfl, by kernel_rfl⟩ -- cloister/cloisterlaw13.CodeChecks
instance : FN Tryd.prog 6 := ⟨_, Tryd.func6, by kernel_rfl, by kernel_rfl⟩ -- cloister/cloisterlaw13.CodeParses
instance : FN Tryd.prog 7 := ⟨_, Tryd.func7, by kernel_rfl, by kernel_rfl⟩ -- cloister/cloisterlaw13.CodeBack
instance : FN Tryd.prog 8 := ⟨_, Tryd.func8, by kernel_rfl, by kernel_rfl⟩ -- cloister/cloisterlaw13.CodeAgain
instance : FN Tryd.prog 9 := ⟨_, Tryd.func9, by kernel_rfl, by kernel_rfl⟩ -- cloister/cloisterlaw13.CodeRemarks
instance : FN Tryd.prog 10 := ⟨_, Tryd.func10, by kernel_rfl, by kernel_rfl⟩ -- cloister/reply.Print
instance : FN Tryd.prog 11 := ⟨_, Tryd.func11, by kernel_rfl, by kernel_rfl⟩ -- cloister/reply.Parse
instance : FN Tryd.prog 12 := ⟨_, Tryd.func12, by kernel_rfl, by kernel_rfl⟩ -- cloister/cloisterref09.Same
instance : FN Tryd.prog 13 := ⟨_, Tryd.func13, by kernel_rfl, by kernel_rfl⟩ -- cloister/cloisterlaw09.awake
instance : FN Tryd.prog 14 := ⟨_, Tryd.func14, by kernel_rfl, by kernel_rfl⟩ -- cloister/meter.Count
instance : FN Tryd.prog 15 := ⟨_, Tryd.func15, by kernel_rfl, by kernel_rfl⟩ -- cloister/cloisterref21.Count
instance : FN Tryd.prog 16 := ⟨_, Tryd.func16, by kernel_rfl, by kernel_rfl⟩ -- cloister/cloisterlaw21.awake
instance : FN Tryd.prog 17 := ⟨_, Tryd.func17, by kernel_rfl, by kernel_rfl⟩ -- cloister/code.Check
instance : FN Tryd.prog 18 := ⟨_, Tryd.func18, by kernel_rfl, by kernel_rfl⟩ -- cloister/cloisterref13.Check
instance : FN Tryd.prog 19 := ⟨_, Tryd.func19, by kernel_rfl, by kernel_rfl⟩ -- cloister/code.Print
instance : FN Tryd.prog 20 := ⟨_, Tryd.func20, by kernel_rfl, by kernel_rfl⟩ -- cloister/cloisterref13.Print
instance : FN Tryd.prog 21 := ⟨_, Tryd.func21, by kernel_rfl, by kernel_rfl⟩ -- cloister/code.Name
instance : FN Tryd.prog 22 := ⟨_, Tryd.func22, by kernel_rfl, by kernel_rfl⟩ -- cloister/cloisterref13.Name
instance : FN Tryd.prog 23 := ⟨_, Tryd.func23, by kernel_rfl, by kernel_rfl⟩ -- cloister/cloisterlaw13.awake
instance : FN Tryd.prog 24 := ⟨_, Tryd.func24, by kernel_rfl, by kernel_rfl⟩ -- cloister/code.Parse
instance : FN Tryd.prog 25 := ⟨_, Tryd.func25, by kernel_rfl, by kernel_rfl⟩ -- cloister/cloisterref13.Parse
instance : FN Tryd.prog 26 := ⟨_, Tryd.func26, by kernel_rfl, by kernel_rfl⟩ -- cloister/cloisterref13.Same
instance : FN Tryd.prog 27 := ⟨_, Tryd.func27, by kernel_rfl, by kernel_rfl⟩ -- cloister/reply.may
instance : FN Tryd.prog 28 := ⟨_, Tryd.func28, by kernel_rfl, by kernel_rfl⟩ -- cloister/reply.Reason
instance : FN Tryd.prog 29 := ⟨_, Tryd.func29, by kernel_rfl, by kernel_rfl⟩ -- (*strings.Builder).WriteString
instance : FN Tryd.prog 30 := ⟨_, Tryd.func30, by kernel_rfl, by kernel_rfl⟩ -- strconv.Itoa
instance : FN Tryd.prog 31 := ⟨_, Tryd.func31, by kernel_rfl, by kernel_rfl⟩ -- cloister/reply.end
instance : FN Tryd.prog 32 := ⟨_, Tryd.func32, by kernel_rfl, by kernel_rfl⟩ -- (*strings.Builder).String
instance : FN Tryd.prog 33 := ⟨_, Tryd.func33, by kernel_rfl, by kernel_rfl⟩ -- cloister/reply.read
instance : FN Tryd.prog 34 := ⟨_, Tryd.func34, by kernel_rfl, by kernel_rfl⟩ -- strings.HasPrefix
instance : FN Tryd.prog 35 := ⟨_, Tryd.func35, by kernel_rfl, by kernel_rfl⟩ -- cloister/cloisterref06.Same
instance : FN Tryd.prog 36 := ⟨_, Tryd.func36, by kernel_rfl, by kernel_rfl⟩ -- cloister/reply.Plain
instance : FN Tryd.prog 37 := ⟨_, Tryd.func37, by kernel_rfl, by kernel_rfl⟩ -- cloister/cloisterref09.Parse
instance : FN Tryd.prog 38 := ⟨_, Tryd.func38, by kernel_rfl, by kernel_rfl⟩ -- cloister/meter.Bound
instance : FN Tryd.prog 39 := ⟨_, Tryd.func39, by kernel_rfl, by kernel_rfl⟩ -- cloister/meter.Units
instance : FN Tryd.prog 40 := ⟨_, Tryd.func40, by kernel_rfl, by kernel_rfl⟩ -- slices.IndexFunc[[]cloister/api.Instr,cloister/api.Instr]
instance : FN Tryd.prog 41 := ⟨_, Tryd.func41, by kernel_rfl, by kernel_rfl⟩ -- cloister/code.Check$1
instance : FN Tryd.prog 42 := ⟨_, Tryd.func42, by kernel_rfl, by kernel_rfl⟩ -- cloister/code.may
instance : FN Tryd.prog 43 := ⟨_, Tryd.func43, by kernel_rfl, by kernel_rfl⟩ -- cloister/cloisterref13.may
instance : FN Tryd.prog 44 := ⟨_, Tryd.func44, by kernel_rfl, by kernel_rfl⟩ -- cloister/code.takes
instance : FN Tryd.prog 45 := ⟨_, Tryd.func45, by kernel_rfl, by kernel_rfl⟩ -- cloister/cloisterref13.hasA
instance : FN Tryd.prog 46 := ⟨_, Tryd.func46, by kernel_rfl, by kernel_rfl⟩ -- cloister/code.names
instance : FN Tryd.prog 47 := ⟨_, Tryd.func47, by kernel_rfl, by kernel_rfl⟩ -- strings.Split
instance : FN Tryd.prog 48 := ⟨_, Tryd.func48, by kernel_rfl, by kernel_rfl⟩ -- strings.Cut
instance : FN Tryd.prog 49 := ⟨_, Tryd.func49, by kernel_rfl, by kernel_rfl⟩ -- strings.TrimLeft
instance : FN Tryd.prog 50 := ⟨_, Tryd.func50, by kernel_rfl, by kernel_rfl⟩ -- strings.Trim
instance : FN Tryd.prog 51 := ⟨_, Tryd.func51, by kernel_rfl, by kernel_rfl⟩ -- cloister/code.read
instance : FN Tryd.prog 52 := ⟨_, Tryd.func52, by kernel_rfl, by kernel_rfl⟩ -- cloister/cloisterref06.Trim
instance : FN Tryd.prog 53 := ⟨_, Tryd.func53, by kernel_rfl, by kernel_rfl⟩ -- cloister/cloisterref13.one
instance : FN Tryd.prog 54 := ⟨_, Tryd.func54, by kernel_rfl, by kernel_rfl⟩ -- cloister/reply.name
instance : FN Tryd.prog 55 := ⟨_, Tryd.func55, by kernel_rfl, by kernel_rfl⟩ -- cloister/reply.value
instance : FN Tryd.prog 56 := ⟨_, Tryd.func56, by kernel_rfl, by kernel_rfl⟩ -- cloister/reply.reasons
instance : FN Tryd.prog 57 := ⟨_, Tryd.func57, by kernel_rfl, by kernel_rfl⟩ -- (*strings.Builder).copyCheck
instance : FN Tryd.prog 58 := ⟨_, Tryd.func58, by kernel_rfl, by kernel_rfl⟩ -- internal/strconv.Itoa
instance : FN Tryd.prog 59 := ⟨_, Tryd.func59, by kernel_rfl, by kernel_rfl⟩ -- strings.SplitN
instance : FN Tryd.prog 60 := ⟨_, Tryd.func60, by kernel_rfl, by kernel_rfl⟩ -- strconv.Atoi
instance : FN Tryd.prog 61 := ⟨_, Tryd.func61, by kernel_rfl, by kernel_rfl⟩ -- internal/stringslite.HasPrefix
instance : FN Tryd.prog 62 := ⟨_, Tryd.func62, by kernel_rfl, by kernel_rfl⟩ -- cloister/cloisterref09.digits
instance : FN Tryd.prog 63 := ⟨_, Tryd.func63, by kernel_rfl, by kernel_rfl⟩ -- cloister/cloisterref07.End
instance : FN Tryd.prog 64 := ⟨_, Tryd.func64, by kernel_rfl, by kernel_rfl⟩ -- cloister/cloisterref09.Print
instance : FN Tryd.prog 65 := ⟨_, Tryd.func65, by kernel_rfl, by kernel_rfl⟩ -- cloister/meter.may
instance : FN Tryd.prog 66 := ⟨_, Tryd.func66, by kernel_rfl, by kernel_rfl⟩ -- slices.Contains[[]int,int]
instance : FN Tryd.prog 67 := ⟨_, Tryd.func67, by kernel_rfl, by kernel_rfl⟩ -- strings.genSplit
instance : FN Tryd.prog 68 := ⟨_, Tryd.func68, by kernel_rfl, by kernel_rfl⟩ -- internal/stringslite.Cut
instance : FN Tryd.prog 69 := ⟨_, Tryd.func69, by kernel_rfl, by kernel_rfl⟩ -- strings.trimLeftByte
instance : FN Tryd.prog 70 := ⟨_, Tryd.func70, by kernel_rfl, by kernel_rfl⟩ -- strings.makeASCIISet
instance : FN Tryd.prog 71 := ⟨_, Tryd.func71, by kernel_rfl, by kernel_rfl⟩ -- strings.trimLeftASCII
instance : FN Tryd.prog 72 := ⟨_, Tryd.func72, by kernel_rfl, by kernel_rfl⟩ -- strings.trimLeftUnicode
instance : FN Tryd.prog 73 := ⟨_, Tryd.func73, by kernel_rfl, by kernel_rfl⟩ -- strings.trimRightByte
instance : FN Tryd.prog 74 := ⟨_, Tryd.func74, by kernel_rfl, by kernel_rfl⟩ -- strings.trimRightASCII
instance : FN Tryd.prog 75 := ⟨_, Tryd.func75, by kernel_rfl, by kernel_rfl⟩ -- strings.trimRightUnicode
instance : FN Tryd.prog 76 := ⟨_, Tryd.func76, by kernel_rfl, by kernel_rfl⟩ -- strings.IndexAny
instance : FN Tryd.prog 77 := ⟨_, Tryd.func77, by kernel_rfl, by kernel_rfl⟩ -- slices.Index[[]string,string]
instance : FN Tryd.prog 78 := ⟨_, Tryd.func78, by kernel_rfl, by kernel_rfl⟩ -- cloister/cloisterref13.Number
instance : FN Tryd.prog 79 := ⟨_, Tryd.func79, by kernel_rfl, by kernel_rfl⟩ -- strings.IndexByte
instance : FN Tryd.prog 81 := ⟨_, Tryd.func81, by kernel_rfl, by kernel_rfl⟩ -- internal/strconv.FormatInt
instance : FN Tryd.prog 82 := ⟨_, Tryd.func82, by kernel_rfl, by kernel_rfl⟩ -- internal/strconv.Atoi
instance : FN Tryd.prog 83 := ⟨_, Tryd.func83, by kernel_rfl, by kernel_rfl⟩ -- strconv.toError
instance : FN Tryd.prog 84 := ⟨_, Tryd.func84, by kernel_rfl, by kernel_rfl⟩ -- cloister/cloisterref09.May
instance : FN Tryd.prog 85 := ⟨_, Tryd.func85, by kernel_rfl, by kernel_rfl⟩ -- cloister/cloisterref09.Reason
instance : FN Tryd.prog 86 := ⟨_, Tryd.func86, by kernel_rfl, by kernel_rfl⟩ -- slices.Index[[]int,int]
instance : FN Tryd.prog 87 := ⟨_, Tryd.func87, by kernel_rfl, by kernel_rfl⟩ -- strings.explode
instance : FN Tryd.prog 88 := ⟨_, Tryd.func88, by kernel_rfl, by kernel_rfl⟩ -- strings.Count
instance : FN Tryd.prog 89 := ⟨_, Tryd.func89, by kernel_rfl, by kernel_rfl⟩ -- strings.Index
instance : FN Tryd.prog 90 := ⟨_, Tryd.func90, by kernel_rfl, by kernel_rfl⟩ -- internal/stringslite.Index
instance : FN Tryd.prog 91 := ⟨_, Tryd.func91, by kernel_rfl, by kernel_rfl⟩ -- (*strings.asciiSet).contains
instance : FN Tryd.prog 92 := ⟨_, Tryd.func92, by kernel_rfl, by kernel_rfl⟩ -- unicode/utf8.DecodeRuneInString
instance : FN Tryd.prog 93 := ⟨_, Tryd.func93, by kernel_rfl, by kernel_rfl⟩ -- strings.ContainsRune
instance : FN Tryd.prog 94 := ⟨_, Tryd.func94, by kernel_rfl, by kernel_rfl⟩ -- unicode/utf8.DecodeLastRuneInString
instance : FN Tryd.prog 95 := ⟨_, Tryd.func95, by kernel_rfl, by kernel_rfl⟩ -- strings.IndexRune
instance : FN Tryd.prog 96 := ⟨_, Tryd.func96, by kernel_rfl, by kernel_rfl⟩ -- strings.shouldUseASCIISet
instance : FN Tryd.prog 97 := ⟨_, Tryd.func97, by kernel_rfl, by kernel_rfl⟩ -- internal/stringslite.IndexByte
instance : FN Tryd.prog 98 := ⟨_, Tryd.func98, by kernel_rfl, by kernel_rfl⟩ -- internal/strconv.small
instance : FN Tryd.prog 99 := ⟨_, Tryd.func99, by kernel_rfl, by kernel_rfl⟩ -- internal/strconv.numDigits
instance : FN Tryd.prog 100 := ⟨_, Tryd.func100, by kernel_rfl, by kernel_rfl⟩ -- internal/strconv.formatBase10
instance : FN Tryd.prog 101 := ⟨_, Tryd.func101, by kernel_rfl, by kernel_rfl⟩ -- internal/strconv.formatBits
instance : FN Tryd.prog 102 := ⟨_, Tryd.func102, by kernel_rfl, by kernel_rfl⟩ -- internal/strconv.ParseInt
instance : FN Tryd.prog 103 := ⟨_, Tryd.func103, by kernel_rfl, by kernel_rfl⟩ -- strconv.syntaxError
instance : FN Tryd.prog 104 := ⟨_, Tryd.func104, by kernel_rfl, by kernel_rfl⟩ -- strconv.rangeError
instance : FN Tryd.prog 105 := ⟨_, Tryd.func105, by kernel_rfl, by kernel_rfl⟩ -- strconv.baseError
instance : FN Tryd.prog 106 := ⟨_, Tryd.func106, by kernel_rfl, by kernel_rfl⟩ -- strconv.bitSizeError
instance : FN Tryd.prog 107 := ⟨_, Tryd.func107, by kernel_rfl, by kernel_rfl⟩ -- cloister/cloisterref07.Name
instance : FN Tryd.prog 108 := ⟨_, Tryd.func108, by kernel_rfl, by kernel_rfl⟩ -- cloister/cloisterref07.Small
instance : FN Tryd.prog 109 := ⟨_, Tryd.func109, by kernel_rfl, by kernel_rfl⟩ -- cloister/cloisterref09.value
instance : FN Tryd.prog 110 := ⟨_, Tryd.func110, by kernel_rfl, by kernel_rfl⟩ -- unicode/utf8.RuneCountInString
instance : FN Tryd.prog 113 := ⟨_, Tryd.func113, by kernel_rfl, by kernel_rfl⟩ -- internal/bytealg.Cutover
instance : FN Tryd.prog 114 := ⟨_, Tryd.func114, by kernel_rfl, by kernel_rfl⟩ -- internal/bytealg.IndexRabinKarp[string]
instance : FN Tryd.prog 115 := ⟨_, Tryd.func115, by kernel_rfl, by kernel_rfl⟩ -- unicode/utf8.decodeRuneInStringSlow
instance : FN Tryd.prog 116 := ⟨_, Tryd.func116, by kernel_rfl, by kernel_rfl⟩ -- unicode/utf8.RuneStart
instance : FN Tryd.prog 117 := ⟨_, Tryd.func117, by kernel_rfl, by kernel_rfl⟩ -- unicode/utf8.ValidRune
instance : FN Tryd.prog 119 := ⟨_, Tryd.func119, by kernel_rfl, by kernel_rfl⟩ -- internal/strconv.log10Pow2
instance : FN Tryd.prog 120 := ⟨_, Tryd.func120, by kernel_rfl, by kernel_rfl⟩ -- math/bits.Len64
instance : FN Tryd.prog 121 := ⟨_, Tryd.func121, by kernel_rfl, by kernel_rfl⟩ -- internal/strconv.bool2[int]
instance : FN Tryd.prog 122 := ⟨_, Tryd.func122, by kernel_rfl, by kernel_rfl⟩ -- internal/strconv.isPowerOfTwo
instance : FN Tryd.prog 123 := ⟨_, Tryd.func123, by kernel_rfl, by kernel_rfl⟩ -- math/bits.TrailingZeros
instance : FN Tryd.prog 124 := ⟨_, Tryd.func124, by kernel_rfl, by kernel_rfl⟩ -- internal/strconv.ParseUint
instance : FN Tryd.prog 125 := ⟨_, Tryd.func125, by kernel_rfl, by kernel_rfl⟩ -- internal/stringslite.Clone
instance : FN Tryd.prog 126 := ⟨_, Tryd.func126, by kernel_rfl, by kernel_rfl⟩ -- errors.New
instance : FN Tryd.prog 127 := ⟨_, Tryd.func127, by kernel_rfl, by kernel_rfl⟩ -- internal/bytealg.hashStr[string]
instance : FN Tryd.prog 128 := ⟨_, Tryd.func128, by kernel_rfl, by kernel_rfl⟩ -- math/bits.TrailingZeros32
instance : FN Tryd.prog 129 := ⟨_, Tryd.func129, by kernel_rfl, by kernel_rfl⟩ -- math/bits.TrailingZeros64
instance : FN Tryd.prog 130 := ⟨_, Tryd.func130, by kernel_rfl, by kernel_rfl⟩ -- internal/strconv.lower
instance : FN Tryd.prog 131 := ⟨_, Tryd.func131, by kernel_rfl, by kernel_rfl⟩ -- internal/strconv.underscoreOK
end Go.Proofs.YtnjolbnbpfjdiaaDoor.L

namespace Go.Proofs.YtnjolbnbpfjdiaaDoor.L
open Go Go.RowKit Go.ChangeShapes Go.WideShapes
set_option linter.unusedVariables false
set_option linter.unusedSimpArgs false

/-- What a cell of data may hold. -/
inductive KT where
  | bool
  | int (k : IntKind)
  | str
  | sl (ks : List KT)

/-- How many bytes a cell takes at least. -/
def KT.w : KT → Nat
  | .bool => 1
  | .int k => k.bits / 8
  | .str => 16
  | .sl _ => 24
def ktW : List KT → Nat
  | [] => 0
  | k :: r => k.w + ktW r
theorem KT.w_pos (k : KT) : 0 < k.w := by
  cases k with
  | int k => cases k <;> decide
  | _ => simp [KT.w]
theorem ktW_pos {ks : List KT} (h : 0 < ks.length) : 0 < ktW ks := by
  cases ks with
  | nil => simp at h
  | cons k r => have := k.w_pos; simp only [ktW]; omega
mutual
inductive OKV : KT → AV → Prop where
  | bool (b : Bool) : OKV .bool (.bool b)
  | int (k : IntKind) (n : Int) (h : (Lit.int k n).wf = true) : OKV (.int k) (.int k n)
  | str (s : List UInt8) (h : s.length ≤ 140737488351232) : OKV .str (.str s)
  | sl (ks : List KT) (xs : List (List AV)) (hl : xs.length ≤ 140737488351232) (hb : xs.length * ktW ks ≤ 140737488351232) (h : OKR ks xs) : OKV (.sl ks) (.rs xs)
inductive OKL : List KT → List AV → Prop where
  | nil : OKL [] []
  | cons {k : KT} {ks : List KT} {x : AV} {xs : List AV} (h : OKV k x) (r : OKL ks xs) : OKL (k :: ks) (x :: xs)
inductive OKR : List KT → List (List AV) → Prop where
  | nil {ks : List KT} : OKR ks []
  | cons {ks : List KT} {x : List AV} {xs : List (List AV)} (h : OKL ks x) (r : OKR ks xs) : OKR ks (x :: xs)
end

theorem OKR.get {ks : List KT} : ∀ {xs : List (List AV)}, OKR ks xs → ∀ (i : Nat) row, xs[i]? = some row → OKL ks row := by
  intro xs
  induction xs with
  | nil => intro _ i row h; simp at h
  | cons x xs ih =>
    intro h i row hi
    cases h with
    | cons h r =>
      cases i with
      | zero => simp at hi; subst hi; exact h
      | succ i => exact ih r i row (by simpa using hi)
theorem OKR.of {ks : List KT} : ∀ {xs : List (List AV)}, (∀ row ∈ xs, OKL ks row) → OKR ks xs := by
  intro xs
  induction xs with
  | nil => intro _; exact .nil
  | cons x xs ih => intro h; exact .cons (h x (by simp)) (ih fun row hr => h row (by simp [hr]))
theorem OKL.len {ks : List KT} : ∀ {xs : List AV}, OKL ks xs → xs.length = ks.length := by
  induction ks with
  | nil => intro xs h; cases h; rfl
  | cons k ks ih => intro xs h; cases h with | cons h r => simp [ih r]

/-- Cells, their abstract values, and what these may be. -/
inductive OpL (w : World) (I : Imm) : List KT → List Value → List AV → Prop where
  | nil : OpL w I [] [] []
  | cons {k : KT} {ks : List KT} {v : Value} {vs : List Value} {x : AV} {xs : List AV} (h : OKV k x) (hv : VP w I x v) (r : OpL w I ks vs xs) : OpL w I (k :: ks) (v :: vs) (x :: xs)
theorem OpL.append {w : World} {I : Imm} {ks ks' : List KT} {vs vs' : List Value} {xs xs' : List AV} (h : OpL w I ks vs xs) (h' : OpL w I ks' vs' xs') : OpL w I (ks ++ ks') (vs ++ vs') (xs ++ xs') := by
  induction h with
  | nil => exact h'
  | cons h hv _ ih => exact .cons h hv ih
theorem OpL.ok {w : World} {I : Imm} {ks : List KT} {vs : List Value} {xs : List AV} (h : OpL w I ks vs xs) : OKL ks xs := by
  induction h with
  | nil => exact .nil
  | cons h hv _ ih => exact .cons h ih
theorem OpL.len {w : World} {I : Imm} {ks : List KT} {vs : List Value} {xs : List AV} (h : OpL w I ks vs xs) : xs.length = vs.length ∧ vs.length = ks.length := by
  induction h with
  | nil => exact ⟨rfl, rfl⟩
  | cons h hv _ ih => simp [ih]
theorem OpL.get {w : World} {I : Imm} {ks : List KT} {vs : List Value} {xs : List AV} (h : OpL w I ks vs xs) : ∀ (j : Nat) x v, xs[j]? = some x → vs[j]? = some v → VP w I x v := by
  induction h with
  | nil => intro j x v hx; simp at hx
  | cons h hv _ ih =>
    intro j x v hx hv'
    cases j with
    | zero => simp at hx hv'; subst hx; subst hv'; exact hv
    | succ j => exact ih j x v (by simpa using hx) (by simpa using hv')

/-- The cells of a type of plain data. -/
def ktF (r : TypeId → Option (List KT)) (P : Program) : List Field → Nat → Option (List KT)
  | [], _ => some []
  | f :: fs, off => match r f.type with
    | some ks => if f.offset = off ∧ P.cellsOf f.type = ks.length then
        (match ktF r P fs (off + ks.length) with
         | some ks' => some (ks ++ ks')
         | none => none)
      else none
    | none => none
def ktOf (P : Program) : Nat → TypeId → Option (List KT)
  | 0, _ => none
  | n + 1, t => match P.underlying t with
    | some .bool => some [.bool]
    | some (.int k) => some [.int k]
    | some .string => some [.str]
    | some (.slice e) => match ktOf P n e with
      | some ks => if (P.cellsOf e = ks.length ∧ 0 < ks.length) ∧ ktW ks ≤ P.bytesOf e then some [.sl ks] else none
      | none => none
    | some (.struct fs) => match ktF (ktOf P n) P fs.toList 0 with
      | some ks => if P.cellsOf t = ks.length then some ks else none
      | none => none
    | _ => none

def Rd (w : World) : Imm := fun b o => ∃ v, w.cell? ⟨b, o, none⟩ = some v

section
variable {H : Type} {enc : TypeId × Value → H} {P : Program} {w : World} {sp : Nat → Bool} {held : Bool}

theorem cell_spot {b o : Nat} {s : Option Nat} {v : Value} (h : w.cell? ⟨b, o, s⟩ = some v) : s = none := by
  unfold World.cell? at h
  split at h
  · cases s with
    | none => rfl
    | some s => simp at h
  · cases h

theorem weightsAll_mem {e : TypeId} : ∀ {l : List (DataW H)} {d : DataW H}, d ∈ l → ∀ n ∈ d.weights P e, n ∈ DataW.weightsAll P e l := by
  intro l
  induction l with
  | nil => intro d h; cases h
  | cons x r ih =>
    intro d h n hn
    simp only [DataW.weightsAll, List.mem_append]
    rcases List.mem_cons.1 h with rfl | h
    · exact .inl hn
    · exact .inr (ih h n hn)

theorem trodAll_below (hl : laidOutB P = true) {W W' : World} (hb : Below W.heap.size W W') : ∀ {ts : List TypeId} {vs : List Value} {ds : List (DataW H)} {ps : List MemPlace}, (∀ t ∈ ts, P.readableRec t = true ∧ t < P.types.size) →
    DataW.TrodAll enc P W 0 (fun _ => true) true ts vs ds ps → (∀ x ∈ ps, x.block < W.heap.size) → DataW.TrodAll enc P W' 0 (fun b => decide (b < W.heap.size)) true ts vs ds ps := by
  intro ts
  induction ts with
  | nil =>
    intro vs ds ps _ h _
    obtain ⟨rfl, rfl, rfl⟩ := trodAll_nil h
    exact rfl
  | cons t ts ih =>
    intro vs ds ps ht h hlt
    obtain ⟨v, vs, d, ds, p, q, rfl, rfl, rfl, h1, h2⟩ := trodAll_cons h
    exact ⟨p, q, Below.trod hl (ht t (by simp)).1 (ht t (by simp)).2 h1 hb (fun x hx => hlt x (by simp [hx])), ih (fun t' h' => ht t' (by simp [h'])) h2 (fun x hx => hlt x (by simp [hx])), rfl⟩


theorem hr_start (W : World) : HR ⟨P, W, W.heap.size, 0⟩ (Rd W) nu0 [] W where
  n := rfl
  below := Below.refl _ _
  base := Nat.le_refl _
  imm _ _ h := h
  obj _ _ h := by simp at h
  disj _ _ _ _ _ h := by simp at h

/-- A law that answers true, whatever it is handed. -/
theorem calls_row {f : Nat} {fn : Func} {s : ChangeSpec} {W : World} {args : Array Value} {ds gs : List (DataW H)} {before : List MemPlace} {tb : TypeId} {fresh handsOn : Bool}
    (hl : laidOutB P = true) (hts : ∀ t ∈ fn.params.toList, P.readableRec t = true ∧ t < P.types.size) (hres : fn.resultTypes = #[tb]) (hb : P.underlying tb = some .bool) (hvars : s.vars = [])
    (hW : DataW.Whole enc P fn.params.toList s.vars false W args.toList ds gs before) (hfn : s.fn H ds = { results := [.lit (.bool true)], args := ds })
    {avs : List AV} (hav : avs.length = args.toList.length ∧ ∀ (j : Nat) x v, avs[j]? = some x → args.toList[j]? = some v → VR W (Rd W) nu0 x v)
    (spec : PCalls ⟨P, W, W.heap.size, 0⟩ f avs fun rv => rv = .bool true) :
    Calls P f args W fun e W' => ∃ v, e = .returned v ∧ s.post enc P fn false fresh handsOn false W args v W' := by
  have hlt := hW.lt
  have hW' := hW
  obtain ⟨p, q, hA, hV, rfl, _⟩ := hW
  rw [hvars] at hV
  obtain ⟨rfl, rfl⟩ := trodVars_none hV
  have h := spec (Rd W) nu0 W args.toList (hr_start W) hav.1 hav.2
  refine h.mono ?_
  rintro e W' ⟨rv, objs', I', ν', v, ⟨rfl, _⟩, rfl, hv, hh, _⟩
  have hv' := hv.bool_inv
  subst hv'
  have bel : Below W.heap.size W W' := hh.below
  rw [List.append_nil] at hlt
  refine ⟨_, rfl, ds, [], p ++ [], [], p, [], hW', ?_, ?_, ?_, bel.frame _, fun h => by cases h⟩
  · rw [List.append_nil, hfn, hres]
    exact trodAll_mk1 (shut_bool hb true)
  · rw [List.append_nil, hfn]
    exact trodAll_below hl bel hts hA hlt
  · rw [hvars, List.append_nil, hfn]
    exact rfl

/-- An argument: one cell, or a struct's cells. -/
inductive AK where
  | one (k : KT)
  | agg (ks : List KT)
inductive OKA : List AK → List AV → Prop where
  | nil : OKA [] []
  | one {k : KT} {asq : List AK} {x : AV} {xs : List AV} (h : OKV k x) (r : OKA asq xs) : OKA (.one k :: asq) (x :: xs)
  | agg {ks : List KT} {asq : List AK} {ys : List AV} {xs : List AV} (h : OKL ks ys) (r : OKA asq xs) : OKA (.agg ks :: asq) (.agg ys :: xs)
def akOf (P : Program) (n : Nat) (t : TypeId) : Option AK := match P.underlying t with
  | some (.struct _) => match ktOf P n t with
    | some ks => some (.agg ks)
    | none => none
  | some (.array _ _) => none
  | _ => match ktOf P n t with
    | some [k] => some (.one k)
    | _ => none
def aksOf (P : Program) (n : Nat) : List TypeId → Option (List AK)
  | [] => some []
  | t :: ts => match akOf P n t with
    | some a => match aksOf P n ts with
      | some asq => some (a :: asq)
      | none => none
    | none => none

theorem cells_one {r : Reach} {b : Nat} {t : TypeId} {v : Value} (hval : Value.okWide P w r b t v) (hs : ∀ fs, P.underlying t ≠ some (.struct fs)) (ha : ∀ n e, P.underlying t ≠ some (.array n e)) {n : Nat} {k : KT} (hk : ktOf P n t = some [k]) : v.cells.toList = [v] := by
  cases n with
  | zero => cases hk
  | succ n =>
    unfold ktOf at hk
    split at hk
    · rename_i hu; obtain ⟨b, rfl⟩ := okWide_bool hu hval; rfl
    · rename_i hu; obtain ⟨b, rfl⟩ := okWide_int hu hval; rfl
    · rename_i hu; obtain ⟨b, rfl⟩ := okWide_string hu hval; rfl
    · rename_i hu; obtain ⟨a, b, c, rfl⟩ := okWide_slice hu hval; rfl
    · rename_i hu; exact absurd hu (hs _)
    · cases hk

end
end Go.Proofs.YtnjolbnbpfjdiaaDoor.L

namespace Go.Proofs.YtnjolbnbpfjdiaaDoor.L
open Go Go.RowKit
set_option linter.unusedVariables false
set_option linter.unusedSimpArgs false
variable {E : Env} {N : Nat} {ops : Array Oper} {Q : Exit → St → Prop} {sl : Slots} {H H' : List AO} {rest : List Oper}

theorem allPu_append : ∀ {xs ys : List AV}, allPu xs = true → allPu ys = true → allPu (xs ++ ys) = true := by
  intro xs
  induction xs with
  | nil => intro ys _ h; exact h
  | cons x xs ih =>
    intro ys h k
    simp only [allPu] at h
    split at h
    · rename_i hx
      simp only [List.cons_append, allPu, hx]
      exact ih h k
    · cases h
theorem allPu_rep {zs : List AV} (h : allPu zs = true) (n : Nat) : allPu (List.replicate n zs).flatten = true := by
  induction n with
  | zero => rfl
  | succ n ih => rw [List.replicate_succ, List.flatten_cons]; exact allPu_append h ih
theorem Sp.of {α : Type} {a b : List α} : Sp a.length (a ++ b) a b := by
  induction a with
  | nil => exact .zero
  | cons x a ih => exact .succ ih
theorem Chunk.rep {α : Type} (zs : List α) (n : Nat) : Chunk zs.length (List.replicate n zs).flatten (List.replicate n zs) := by
  induction n with
  | zero => exact .nil
  | succ n ih => rw [List.replicate_succ, List.flatten_cons]; exact .cons Sp.of ih

theorem al_makeSlice {t e : Nat} {n b sz bytes : Nat} {z0 z : Value} {d0 : Bool} [ti : TI E.P t (.slice e) n b z0] [te : TZ E.P e d0 sz bytes z] {l c : Operand} {kl kc : IntKind} {ln cn : Int} {m : Nat} {zv : AV} {zs : List AV} {rows : List (List AV)} {ty : TypeId} {pos : String} {after : Array Edge} {d : Nat}
    (hl : ev sl l = some (.int kl ln)) (hc : ev sl c = some (.int kc cn)) (hz : constAV z = some zv) (hzs : zv.cells = zs) (ha : allCell zs = true) (hzl : zs.length = sz) (h0 : 0 < sz) (hpu : allPu zs = true)
    (h1 : 0 ≤ ln) (h2 : ln ≤ cn) (h3 : (bytes : Int) * cn ≤ 281474976710656) (h63 : cn ≤ 9223372036854775807) (hr : List.replicate ln.toNat zs = rows) (hm : H.length = m) (hH : Snoc H (.row e sz 0 0 rows) H') (hd : Nat.blt d N = true)
    (h : AL E N ops Q rest ⟨(d, .os m 0) :: sl, H'⟩) : AL E N ops Q (⟨some d, .makeSlice t l c, ty, pos, after, none⟩ :: rest) ⟨sl, H⟩ := by
  subst hm
  subst hr
  rw [hH.eq] at h
  refine al_mem hd (fun I ν a w hh hs => ?_) h
  have el := (ev_ok hs hl).int_inv
  have ec := (ev_ok hs hc).int_inv
  obtain ⟨us, g1, g2, g3, g4⟩ := zeros_ok (w := w) (I := I) (ν := ν) hz hzs ha
  obtain ⟨q1, q2, q3⟩ := replicate_ok g2 g3 g4 ln.toNat
  have hul : us.length = sz := by omega
  have hch : Chunk sz (List.replicate ln.toNat zs).flatten (List.replicate ln.toNat zs) := by rw [← hzl]; exact Chunk.rep zs _
  have hR := rowRel_of (allPu_rep hpu _) hch q1 q2
  have hl' : (List.replicate ln.toNat us).flatten.length = ln.toNat * sz := by simp [hul]
  have e1 : madeCells z.cells (cn.toNat * sz) = (List.replicate cn.toNat us).flatten.toArray := by
    unfold madeCells
    rw [← range_zero us cn.toNat (by omega), hul, g1]
  have hown : (w.alloc (.cells (madeCells z.cells (cn.toNat * sz)) e)).ownsRow E.base e sz (.slice (some ⟨w.heap.size, 0, none⟩) ln.toNat cn.toNat) ln.toNat (List.replicate ln.toNat us).flatten :=
    ⟨hl', .inr ⟨w.heap.size, cn.toNat, _, rfl, hh.base, halloc_new w _, by omega, by simp only [maxLen]; omega, size_madeCells _ _, by
      rw [e1]
      have e2 : List.replicate cn.toNat us = List.replicate ln.toNat us ++ List.replicate (cn.toNat - ln.toNat) us := by
        rw [List.replicate_append_replicate]
        congr 1
        omega
      have e3 : (List.replicate cn.toNat us).flatten = (List.replicate ln.toNat us).flatten ++ (List.replicate (cn.toNat - ln.toNat) us).flatten := by rw [e2, List.flatten_append]
      simp only [List.toList_toArray]
      rw [e3, ← hl', List.take_left]⟩⟩
  obtain ⟨ν', p1, p2, p3, p4⟩ := row_push hh h0 (by simp) hown hR (hh.below.alloc hh.base _) (by simp) (fun k hk => halloc_old w _ k hk) (fun b hb => by simp [Value.ownBlock] at hb; omega)
  refine ⟨_, _, ν', fun o ho => ?_, p1, p2, p3, p4⟩
  obtain ⟨i, hi, hzz, hss, hbb⟩ := te.bytes
  have hrun := run_make (P := E.P) w t e i z ti.u hi hzz kl kc ln cn h1 h2 (by rw [hbb]; exact h3) h63
  rw [hss] at hrun
  simp only [execOp, ho]
  rw [el, ec]
  simp [hrun]

/-- A value that says less. -/
inductive AvLe1 : AV → AV → Prop where
  | refl (x : AV) : AvLe1 x x
  | nil : AvLe1 .nilsl (.rs [])
  | any (x : AV) : AvLe1 x .any
inductive AvLeL : List AV → List AV → Prop where
  | nil : AvLeL [] []
  | cons {x y : AV} {xs ys : List AV} (h : AvLe1 x y) (r : AvLeL xs ys) : AvLeL (x :: xs) (y :: ys)
inductive AvLe : AV → AV → Prop where
  | one {x y : AV} (h : AvLe1 x y) : AvLe x y
  | agg {xs ys : List AV} (h : AvLeL xs ys) : AvLe (.agg xs) (.agg ys)
theorem AvLe1.vr {w : World} {I : Imm} {ν : Nu} {x y : AV} (h : AvLe1 x y) {v : Value} (k : VR w I ν x v) : VR w I ν y v := by
  cases h with
  | refl => exact k
  | nil => rw [k.nilsl_inv]; exact .pure (.rs0 none 0)
  | any => exact .any v
theorem AvLeL.get {xs ys : List AV} (h : AvLeL xs ys) : xs.length = ys.length ∧ ∀ (j : Nat) y, ys[j]? = some y → ∃ x, xs[j]? = some x ∧ AvLe1 x y := by
  induction h with
  | nil => exact ⟨rfl, fun j y h => by simp at h⟩
  | @cons x y xs ys h r ih =>
    refine ⟨by simp [ih.1], fun j z hz => ?_⟩
    cases j with
    | zero => simp at hz; subst hz; exact ⟨x, rfl, h⟩
    | succ j => exact ih.2 j z (by simpa using hz)
theorem AvLe.vr {w : World} {I : Imm} {ν : Nu} {x y : AV} (h : AvLe x y) {v : Value} (k : VR w I ν x v) : VR w I ν y v := by
  cases h with
  | one h => exact h.vr k
  | agg h =>
    obtain ⟨vs, rfl, hl, hx⟩ := agg_inv k
    obtain ⟨g1, g2⟩ := h.get
    exact .agg _ vs (by omega) fun j y v hy hv => by
      obtain ⟨x, h1, h2⟩ := g2 j y hy
      exact h2.vr (hx j x v h1 hv)
theorem Wkn.le {sl : Slots} {H : List AO} (t : Nat) (y : AV) {x : AV} (ht : lk sl t = some x) (e : AvLe x y) : Wkn E N ⟨sl, H⟩ ⟨(t, y) :: sl, H⟩ := fun I ν a w hs =>
  ⟨I, ν, ⟨hs.hr, fun k z hz => by
    rw [lk_cons] at hz
    split at hz
    · rename_i h
      subst h
      injection hz with hz; subst hz
      exact e.vr (hs.sl t x ht)
    · exact hs.sl k z hz, hs.df, hs.nt⟩, FR.refl _ _ _ _⟩
end Go.Proofs.YtnjolbnbpfjdiaaDoor.L

namespace Go.Proofs.YtnjolbnbpfjdiaaDoor.L
open Go Go.RowKit
set_option linter.unusedVariables false
set_option linter.unusedSimpArgs false

/-- The callee's id k is the caller's id: of an object handed in ρ tells; further ones come behind the caller's. -/
def rn (ρ : List Nat) (m k : Nat) : Nat := match ρ[k]? with
  | some j => j
  | none => m + (k - ρ.length)

mutual
/-- A value as the callee sees it, as the caller sees it. -/
inductive Rn (r : Nat → Nat) : AV → AV → Prop where
  | op {i j off : Nat} (h : r i = j) : Rn r (.op i off) (.op j off)
  | os {i j ver : Nat} (h : r i = j) : Rn r (.os i ver) (.os j ver)
  | er {i j ver sz k off : Nat} (h : r i = j) : Rn r (.er i ver sz k off) (.er j ver sz k off)
  | mp {i j : Nat} (h : r i = j) : Rn r (.mp i) (.mp j)
  | agg {xs ys : List AV} (h : RnL r xs ys) : Rn r (.agg xs) (.agg ys)
  | tup {xs ys : List AV} (h : RnL r xs ys) : Rn r (.tup xs) (.tup ys)
  | fn {f : Nat} {xs ys : List AV} (h : RnL r xs ys) : Rn r (.fn f xs) (.fn f ys)
  | same {x : AV} (h : clB 0 x = true) : Rn r x x
inductive RnL (r : Nat → Nat) : List AV → List AV → Prop where
  | nil : RnL r [] []
  | cons {x y : AV} {xs ys : List AV} (h : Rn r x y) (k : RnL r xs ys) : RnL r (x :: xs) (y :: ys)
end
theorem RnL.get {r : Nat → Nat} : ∀ {xs ys : List AV}, RnL r xs ys → xs.length = ys.length ∧ (∀ (j : Nat) x, xs[j]? = some x → ∃ y, ys[j]? = some y ∧ Rn r x y) ∧ ∀ (j : Nat) y, ys[j]? = some y → ∃ x, xs[j]? = some x ∧ Rn r x y := by
  intro xs
  induction xs with
  | nil => intro ys h; cases h; exact ⟨rfl, fun j x h => by simp at h, fun j x h => by simp at h⟩
  | cons x xs ih =>
    intro ys h
    cases h with
    | @cons _ y _ ys h k =>
      obtain ⟨g1, g2, g3⟩ := ih k
      refine ⟨by simp [g1], fun j z hz => ?_, fun j z hz => ?_⟩
      · cases j with
        | zero => simp at hz; subst hz; exact ⟨y, rfl, h⟩
        | succ j => simpa using g2 j z (by simpa using hz)
      · cases j with
        | zero => simp at hz; subst hz; exact ⟨x, rfl, h⟩
        | succ j => simpa using g3 j z (by simpa using hz)

inductive RnO (r : Nat → Nat) : AO → AO → Prop where
  | gone : RnO r .gone .gone
  | box {xs ys : List AV} {tyo : Option Nat} (h : RnL r xs ys) : RnO r (.box xs tyo) (.box ys tyo)
  | row {e : TypeId} {sz ver fz : Nat} {xs : List (List AV)} : RnO r (.row e sz ver fz xs) (.row e sz ver fz xs)
  | map {es : List (AV × AV)} : RnO r (.map es) (.map es)
  | arr {e : TypeId} {sz ver : Nat} {xs : List (List AV)} {wr : Bool} : RnO r (.arr e sz ver xs wr) (.arr e sz ver xs wr)
  | siter {s : List UInt8} {pos : Nat} : RnO r (.siter s pos) (.siter s pos)
inductive RnF (r : Nat → Nat) : AO → AO → Prop where
  | of {o o' : AO} (h : RnO r o o') : RnF r o o'
  | forget {o : AO} : RnF r o .gone
/-- The objects handed in. -/
inductive PickO (r : Nat → Nat) (H : List AO) : List Nat → List AO → Prop where
  | nil : PickO r H [] []
  | cons {i : Nat} {ρ : List Nat} {o o' : AO} {os : List AO} (h : H[i]? = some o') (k : RnO r o o') (t : PickO r H ρ os) : PickO r H (i :: ρ) (o :: os)
inductive RnFs (r : Nat → Nat) : List AO → List AO → Prop where
  | nil : RnFs r [] []
  | cons {o o' : AO} {os os' : List AO} (h : RnF r o o') (t : RnFs r os os') : RnFs r (o :: os) (o' :: os')
/-- The caller's objects behind the call. -/
inductive PutO (r : Nat → Nat) : List Nat → List AO → List AO → List AO → Prop where
  | nil {os ext H H' : List AO} (h : RnFs r os ext) (e : H ++ ext = H') : PutO r [] os H H'
  | cons {i : Nat} {ρ : List Nat} {o o1 o2 : AO} {os H H1 H' : List AO} (k : RnF r o o2) (h : Upd i H o1 o2 H1) (t : PutO r ρ os H1 H') : PutO r (i :: ρ) (o :: os) H H'

def ndup : List Nat → Bool
  | [] => true
  | i :: r => match r.contains i with
    | true => false
    | false => ndup r
theorem ndup_get : ∀ {ρ : List Nat}, ndup ρ = true → ∀ (i i' j : Nat), ρ[i]? = some j → ρ[i']? = some j → i = i' := by
  intro ρ
  induction ρ with
  | nil => intro _ i i' j h; simp at h
  | cons a r ih =>
    intro h i i' j h1 h2
    simp only [ndup] at h
    split at h
    · cases h
    · rename_i hc
      have hn : ∀ k : Nat, r[k]? ≠ some a := fun k hk => by
        have := List.mem_of_getElem? hk
        simp at hc
        exact hc this
      cases i with
      | zero =>
        cases i' with
        | zero => rfl
        | succ i' => simp at h1 h2; subst h1; exact absurd h2 (hn i')
      | succ i =>
        cases i' with
        | zero => simp at h1 h2; subst h2; exact absurd h1 (hn i)
        | succ i' => rw [ih h i i' j (by simpa using h1) (by simpa using h2)]

theorem RnFs.get {r : Nat → Nat} {os ext : List AO} (h : RnFs r os ext) : os.length = ext.length ∧ ∀ (j : Nat) o', ext[j]? = some o' → ∃ o, os[j]? = some o ∧ RnF r o o' := by
  induction h with
  | nil => exact ⟨rfl, fun j o h => by simp at h⟩
  | @cons o o' os os' h t ih =>
    refine ⟨by simp [ih.1], fun j z hz => ?_⟩
    cases j with
    | zero => simp at hz; subst hz; exact ⟨o, rfl, h⟩
    | succ j => simpa using ih.2 j z (by simpa using hz)
theorem PickO.get {r : Nat → Nat} {H : List AO} {ρ : List Nat} {os : List AO} (h : PickO r H ρ os) : ρ.length = os.length ∧ ∀ (i : Nat) o, os[i]? = some o → ∃ j o', ρ[i]? = some j ∧ H[j]? = some o' ∧ RnO r o o' := by
  induction h with
  | nil => exact ⟨rfl, fun j o h => by simp at h⟩
  | @cons i ρ o o' os h k t ih =>
    refine ⟨by simp [ih.1], fun j z hz => ?_⟩
    cases j with
    | zero => simp at hz; subst hz; exact ⟨i, o', rfl, h, k⟩
    | succ j => simpa using ih.2 j z (by simpa using hz)

theorem PutO.get {r : Nat → Nat} {ρ : List Nat} {os H H' : List AO} (h : PutO r ρ os H H') : ndup ρ = true →
    ρ.length ≤ os.length ∧ H'.length = H.length + (os.length - ρ.length) ∧ (∀ (i j : Nat), ρ[i]? = some j → j < H.length ∧ ∃ o o', os[i]? = some o ∧ H'[j]? = some o' ∧ RnF r o o') ∧
      (∀ j : Nat, j < H.length → (∀ i : Nat, ρ[i]? ≠ some j) → H'[j]? = H[j]?) ∧ ∀ (j : Nat) o', H.length ≤ j → H'[j]? = some o' → ∃ o, os[j - H.length + ρ.length]? = some o ∧ RnF r o o' := by
  induction h with
  | @nil os ext H H' h e =>
    intro _
    subst e
    obtain ⟨h1, h2⟩ := h.get
    refine ⟨Nat.zero_le _, by simp [h1], fun i j h => by simp at h, fun j hj _ => List.getElem?_append_left hj, fun j o' hj ho => ?_⟩
    rw [List.getElem?_append_right hj] at ho
    simpa using h2 _ o' ho
  | @cons i ρ o o1 o2 os H H1 H' k h t ih =>
    intro hn
    have hn' : ndup ρ = true ∧ ∀ q : Nat, ρ[q]? ≠ some i := by
      simp only [ndup] at hn
      split at hn
      · cases hn
      · rename_i hc
        refine ⟨hn, fun q hq => ?_⟩
        have := List.mem_of_getElem? hq
        simp at hc
        exact hc this
    obtain ⟨g1, g2, g3, g4, g5⟩ := ih hn'.1
    obtain ⟨e1, e2⟩ := h.eq
    subst e2
    have hi : i < H.length := (List.getElem?_eq_some_iff.1 e1).1
    simp only [List.length_set] at g2 g3 g4 g5
    refine ⟨by simp; omega, by simp only [List.length_cons]; omega, fun a j ha => ?_, fun j hj hne => ?_, fun j o' hj ho => ?_⟩
    · cases a with
      | zero =>
        simp at ha
        subst ha
        exact ⟨hi, o, o2, rfl, by rw [g4 i hi hn'.2, List.getElem?_set_self hi], k⟩
      | succ a => simpa using g3 a j (by simpa using ha)
    · rw [g4 j hj (fun q hq => hne (q + 1) (by simpa using hq)), List.getElem?_set_ne (fun e => hne 0 (by simp [e]))]
    · obtain ⟨q, hq, hq'⟩ := g5 j o' hj ho
      exact ⟨q, by simp only [List.length_cons]; rw [← Nat.add_assoc, List.getElem?_cons_succ]; exact hq, hq'⟩

theorem rn_in {ρ : List Nat} {m i j : Nat} (h : ρ[i]? = some j) : rn ρ m i = j := by simp [rn, h]
theorem rn_out {ρ : List Nat} {m i : Nat} (h : ρ.length ≤ i) : rn ρ m i = m + (i - ρ.length) := by simp [rn, List.getElem?_eq_none h]
theorem rn_lt {ρ : List Nat} {m i j : Nat} (h : rn ρ m i = j) (hj : j < m) : ρ[i]? = some j := by
  rcases Nat.lt_or_ge i ρ.length with hi | hi
  · rw [List.getElem?_eq_getElem hi]
    rw [rn_in (List.getElem?_eq_getElem hi)] at h
    rw [h]
  · rw [rn_out hi] at h
    omega

/-- The callee's ids at its start. -/
def nuC (ρ : List Nat) (ν : Nu) : Nu := ⟨ρ.length, fun i => ν.top ((ρ[i]?).getD 0), fun i ver => ν.val ((ρ[i]?).getD 0) ver⟩
/-- Where a caller's id lies in ρ. -/
def invR (ρ : List Nat) (j : Nat) : Option Nat := (List.range ρ.length).find? fun i => ρ[i]? == some j
theorem invR_some {ρ : List Nat} {i j : Nat} (h : invR ρ j = some i) : ρ[i]? = some j := by
  have := List.find?_some h
  simpa using this
theorem invR_none {ρ : List Nat} {j : Nat} (h : invR ρ j = none) (i : Nat) : ρ[i]? ≠ some j := by
  intro hi
  have h1 := List.find?_eq_none.1 h i (by simpa using (List.getElem?_eq_some_iff.1 hi).1)
  simp [hi] at h1
theorem invR_of {ρ : List Nat} (hn : ndup ρ = true) {i j : Nat} (h : ρ[i]? = some j) : invR ρ j = some i := by
  cases hi : invR ρ j with
  | none => exact absurd h (invR_none hi i)
  | some i' => rw [ndup_get hn i' i j (invR_some hi) h]
/-- The caller's ids behind the call. -/
def nuF (ρ : List Nat) (m k : Nat) (ν ν' : Nu) : Nu :=
  ⟨m + (k - ρ.length), fun j => match invR ρ j with
    | some i => ν'.top i
    | none => if j < m then ν.top j else ν'.top (j - m + ρ.length),
   fun j ver => match invR ρ j with
    | some i => ν'.val i ver
    | none => if j < m then ν.val j ver else ν'.val (j - m + ρ.length) ver⟩

section
variable {w : World} {I : Imm} {ν ν' : Nu} {ρ : List Nat} {m k : Nat}

theorem rn_A {y : AV} {v : Value} (hm : ν.n = m) (h : VR w I ν y v) : ∀ {x : AV}, Rn (rn ρ m) x y → VR w I (nuC ρ ν) x v := by
  have lt : ∀ {i j : Nat}, rn ρ m i = j → j < ν.n → ρ[i]? = some j ∧ i < ρ.length := fun h hj => by
    have := rn_lt h (by omega)
    exact ⟨this, (List.getElem?_eq_some_iff.1 this).1⟩
  have cl : ∀ {x : AV} {v : Value}, clB 0 x = true → VR w I ν x v → VR w I (nuC ρ ν) x v := fun hc hv => hv.cut (k := 0) ⟨Nat.zero_le _, fun _ h => by omega, fun _ _ h => by omega⟩ hc
  induction h with
  | any v => intro x h; cases h; exact .any v
  | und v e => intro x h; cases h; exact .und v e
  | pure h =>
    intro x hx
    cases hx with
    | same hc => exact .pure h
    | fn hl =>
      cases h
      cases hl
      exact .pure (.fn _)
    | op _ => cases h
    | os _ => cases h
    | er _ => cases h
    | mp _ => cases h
    | agg _ => cases h
    | tup _ => cases h
  | op id off b hi h =>
    intro x hx
    cases hx with
    | same hc => exact cl hc (.op id off b hi h)
    | @op i _ _ e =>
      obtain ⟨h1, h2⟩ := lt e hi
      exact .op i off b h2 (by simp only [nuC, h1, Option.getD_some]; exact h)
  | os id ver A n c hi hv hs =>
    intro x hx
    cases hx with
    | same hc => exact cl hc (.os id ver A n c hi hv hs)
    | @os i _ _ e =>
      obtain ⟨h1, h2⟩ := lt e hi
      exact .os i ver A n c h2 (by simp only [nuC, h1, Option.getD_some]; exact hv) (by simp only [nuC, h1, Option.getD_some]; exact hs)
  | er id ver sz i off g n c hi hv h =>
    intro x hx
    cases hx with
    | same hc => exact cl hc (.er id ver sz i off g n c hi hv h)
    | @er q _ _ _ _ _ e =>
      obtain ⟨h1, h2⟩ := lt e hi
      exact .er q ver sz i off g n c h2 (by simp only [nuC, h1, Option.getD_some]; exact hv) (by simp only [nuC, h1, Option.getD_some]; exact h)
  | mp id r hi hs =>
    intro x hx
    cases hx with
    | same hc => exact cl hc (.mp id r hi hs)
    | @mp q _ e =>
      obtain ⟨h1, h2⟩ := lt e hi
      exact .mp q r h2 (by simp only [nuC, h1, Option.getD_some]; exact hs)
  | fn f caps vs hl h ih =>
    intro x hx
    cases hx with
    | same hc => exact cl hc (.fn f caps vs hl h)
    | @fn _ xs _ hr =>
      obtain ⟨g1, g2, g3⟩ := hr.get
      exact .fn f xs vs (by omega) fun j x v h1 h2 => by
        obtain ⟨y, hy, hxy⟩ := g2 j x h1
        exact ih j y v hy h2 hxy
  | agg cs vs hl h ih =>
    intro x hx
    cases hx with
    | same hc => exact cl hc (.agg cs vs hl h)
    | @agg xs _ hr =>
      obtain ⟨g1, g2, g3⟩ := hr.get
      exact .agg xs vs (by omega) fun j x v h1 h2 => by
        obtain ⟨y, hy, hxy⟩ := g2 j x h1
        exact ih j y v hy h2 hxy
  | tup cs vs hl h ih =>
    intro x hx
    cases hx with
    | same hc => exact cl hc (.tup cs vs hl h)
    | @tup xs _ hr =>
      obtain ⟨g1, g2, g3⟩ := hr.get
      exact .tup xs vs (by omega) fun j x v h1 h2 => by
        obtain ⟨y, hy, hxy⟩ := g2 j x h1
        exact ih j y v hy h2 hxy

theorem nuF_of (hn : ndup ρ = true) (hρ : ∀ (i j : Nat), ρ[i]? = some j → j < m) {i j : Nat} (h : rn ρ m i = j) : (nuF ρ m k ν ν').top j = ν'.top i ∧ ∀ ver, (nuF ρ m k ν ν').val j ver = ν'.val i ver := by
  rcases Nat.lt_or_ge i ρ.length with hi | hi
  · have h1 : ρ[i]? = some j := by rw [List.getElem?_eq_getElem hi, ← h, rn_in (List.getElem?_eq_getElem hi)]
    simp only [nuF, invR_of hn h1]
    exact ⟨trivial, fun _ => trivial⟩
  · rw [rn_out hi] at h
    have h1 : invR ρ j = none := by
      cases e : invR ρ j with
      | none => rfl
      | some q => have := hρ q j (invR_some e); omega
    have h2 : j - m + ρ.length = i := by omega
    simp only [nuF, h1]
    rw [if_neg (by omega), h2]
    exact ⟨rfl, fun ver => by rw [if_neg (by omega)]⟩

theorem rn_B (hn : ndup ρ = true) (hρ : ∀ (i j : Nat), ρ[i]? = some j → j < m) (hk : ν'.n = k) (hk' : ρ.length ≤ k) {x : AV} {v : Value} (h : VR w I ν' x v) : ∀ {y : AV}, Rn (rn ρ m) x y → VR w I (nuF ρ m k ν ν') y v := by
  have lt : ∀ {i j : Nat}, rn ρ m i = j → i < ν'.n → j < (nuF ρ m k ν ν').n := fun {i j} h hi => by
    simp only [nuF]
    rcases Nat.lt_or_ge i ρ.length with h1 | h1
    · have : ρ[i]? = some j := by rw [List.getElem?_eq_getElem h1, ← h, rn_in (List.getElem?_eq_getElem h1)]
      have := hρ i j this
      omega
    · rw [rn_out h1] at h
      omega
  have ft : ∀ {i j : Nat}, rn ρ m i = j → (nuF ρ m k ν ν').top j = ν'.top i := fun h => (nuF_of hn hρ h).1
  have fv : ∀ {i j : Nat} (ver : Nat), rn ρ m i = j → (nuF ρ m k ν ν').val j ver = ν'.val i ver := fun ver h => (nuF_of hn hρ h).2 ver
  have cl : ∀ {x : AV} {v : Value}, clB 0 x = true → VR w I ν' x v → VR w I (nuF ρ m k ν ν') x v := fun hc hv => hv.cut (k := 0) ⟨Nat.zero_le _, fun _ h => by omega, fun _ _ h => by omega⟩ hc
  induction h with
  | any v => intro x h; cases h; exact .any v
  | und v e => intro x h; cases h; exact .und v e
  | pure h =>
    intro x hx
    cases hx with
    | same hc => exact .pure h
    | fn hl =>
      cases h
      cases hl
      exact .pure (.fn _)
    | op _ => cases h
    | os _ => cases h
    | er _ => cases h
    | mp _ => cases h
    | agg _ => cases h
    | tup _ => cases h
  | op id off b hi h =>
    intro x hx
    cases hx with
    | same hc => exact cl hc (.op id off b hi h)
    | @op _ j _ e => exact .op j off b (lt e hi) ((fv 0 e).trans h)
  | os id ver A n c hi hv hs =>
    intro x hx
    cases hx with
    | same hc => exact cl hc (.os id ver A n c hi hv hs)
    | @os _ j _ e => exact .os j ver A n c (lt e hi) (by rw [ft e]; exact hv) ((fv ver e).trans hs)
  | er id ver sz i off g n c hi hv h =>
    intro x hx
    cases hx with
    | same hc => exact cl hc (.er id ver sz i off g n c hi hv h)
    | @er _ j _ _ _ _ e => exact .er j ver sz i off g n c (lt e hi) (by rw [ft e]; exact hv) ((fv ver e).trans h)
  | mp id r hi hs =>
    intro x hx
    cases hx with
    | same hc => exact cl hc (.mp id r hi hs)
    | @mp _ j e => exact .mp j r (lt e hi) ((fv 0 e).trans hs)
  | fn f caps vs hl h ih =>
    intro x hx
    cases hx with
    | same hc => exact cl hc (.fn f caps vs hl h)
    | @fn _ _ ys hr =>
      obtain ⟨g1, g2, g3⟩ := hr.get
      exact .fn f ys vs (by omega) fun j x v h1 h2 => by
        obtain ⟨y, hy, hxy⟩ := g3 j x h1
        exact ih j y v hy h2 hxy
  | agg cs vs hl h ih =>
    intro x hx
    cases hx with
    | same hc => exact cl hc (.agg cs vs hl h)
    | @agg _ ys hr =>
      obtain ⟨g1, g2, g3⟩ := hr.get
      exact .agg ys vs (by omega) fun j x v h1 h2 => by
        obtain ⟨y, hy, hxy⟩ := g3 j x h1
        exact ih j y v hy h2 hxy
  | tup cs vs hl h ih =>
    intro x hx
    cases hx with
    | same hc => exact cl hc (.tup cs vs hl h)
    | @tup _ ys hr =>
      obtain ⟨g1, g2, g3⟩ := hr.get
      exact .tup ys vs (by omega) fun j x v h1 h2 => by
        obtain ⟨y, hy, hxy⟩ := g3 j x h1
        exact ih j y v hy h2 hxy
end

section
variable {E : Env} {N : Nat} {ops : Array Oper} {Q : Exit → St → Prop} {sl : Slots} {H : List AO} {rest : List Oper}

theorem or_A {w : World} {I : Imm} {ν : Nu} {ρ : List Nat} {m : Nat} (hm : ν.n = m) {i j : Nat} (hi : ρ[i]? = some j) {o o' : AO} (h : OR E w I ν j o') (hr : RnO (rn ρ m) o o') : OR E w I (nuC ρ ν) i o ∧ OB (nuC ρ ν) i o = OB ν j o' := by
  have hv : ∀ ver, (nuC ρ ν).val i ver = ν.val j ver := fun ver => by simp only [nuC, hi, Option.getD_some]
  have ht : (nuC ρ ν).top i = ν.top j := by simp only [nuC, hi, Option.getD_some]
  cases hr with
  | gone => exact ⟨.gone, rfl⟩
  | @box xs ys tyo hb =>
    obtain ⟨g1, g2, g3⟩ := hb.get
    cases h with
    | box _ _ b vs ty h1 h2 h3 h4 h5 h6 h7 =>
      refine ⟨.box xs tyo b vs ty ((hv 0).trans h1) h2 h3 (by omega) (fun q x v hx hv' => ?_) h6 h7, by simp only [OB, hv]⟩
      obtain ⟨y, hy, hxy⟩ := g2 q x hx
      exact rn_A hm (h5 q y v hy hv') hxy
  | row =>
    cases h with
    | row e sz ver fz xs inner h1 h2 h3 h4 h5 h6 => exact ⟨.row _ _ _ _ _ inner (ht.trans h1) h2 (by rw [hv]; exact h3) h4 h5 (by rw [hv]; exact h6), by simp only [OB, hv]⟩
  | map =>
    cases h with
    | map es b en h1 h2 h3 h4 => exact ⟨.map _ b en ((hv 0).trans h1) h2 h3 h4, by simp only [OB, hv]⟩
  | arr =>
    cases h with
    | arr e sz ver xs wr g c cur fr h1 h2 h3 h4 h5 h6 h7 h8 h9 h10 => exact ⟨.arr _ _ _ _ _ g c cur fr (by rw [ht]; exact h1) h2 ((hv _).trans h3) h4 h5 h6 h7 h8 h9 h10, by simp only [OB, hv]⟩
  | siter =>
    cases h with
    | siter s pos r h1 h2 h3 => exact ⟨.siter _ _ r ((hv 0).trans h1) h2 h3, by simp only [OB, hv]⟩

theorem or_B {w : World} {I : Imm} {ν ν' : Nu} {ρ : List Nat} {m k : Nat} (hn : ndup ρ = true) (hρ : ∀ (i j : Nat), ρ[i]? = some j → j < m) (hk : ν'.n = k) (hk' : ρ.length ≤ k) {i j : Nat} (hi : rn ρ m i = j) {o o' : AO} (h : OR E w I ν' i o) (hr : RnF (rn ρ m) o o') :
    OR E w I (nuF ρ m k ν ν') j o' ∧ ∀ b, OB (nuF ρ m k ν ν') j o' = some b → OB ν' i o = some b := by
  obtain ⟨ht, hv⟩ := nuF_of (ν := ν) (ν' := ν') (k := k) hn hρ hi
  cases hr with
  | forget => exact ⟨.gone, fun b h => by simp [OB] at h⟩
  | of hr =>
    cases hr with
    | gone => exact ⟨.gone, fun b h => h⟩
    | @box xs ys tyo hb =>
      obtain ⟨g1, g2, g3⟩ := hb.get
      cases h with
      | box _ _ b vs ty h1 h2 h3 h4 h5 h6 h7 =>
        refine ⟨.box ys tyo b vs ty ((hv 0).trans h1) h2 h3 (by omega) (fun q x v hx hv' => ?_) h6 h7, fun b' h => by simpa only [OB, hv] using h⟩
        obtain ⟨y, hy, hxy⟩ := g3 q x hx
        exact rn_B hn hρ hk hk' (h5 q y v hy hv') hxy
    | row =>
      cases h with
      | row e sz ver fz xs inner h1 h2 h3 h4 h5 h6 => exact ⟨.row _ _ _ _ _ inner (ht.trans h1) h2 (by rw [hv]; exact h3) h4 h5 (by rw [hv]; exact h6), fun b' h => by simpa only [OB, hv] using h⟩
    | map =>
      cases h with
      | map es b en h1 h2 h3 h4 => exact ⟨.map _ b en ((hv 0).trans h1) h2 h3 h4, fun b' h => by simpa only [OB, hv] using h⟩
    | arr =>
      cases h with
      | arr e sz ver xs wr g c cur fr h1 h2 h3 h4 h5 h6 h7 h8 h9 h10 => exact ⟨.arr _ _ _ _ _ g c cur fr (by rw [ht]; exact h1) h2 ((hv _).trans h3) h4 h5 h6 h7 h8 h9 h10, fun b' h => by simpa only [OB, hv] using h⟩
    | siter =>
      cases h with
      | siter s pos r h1 h2 h3 => exact ⟨.siter _ _ r ((hv 0).trans h1) h2 h3, fun b' h => by simpa only [OB, hv] using h⟩

theorem hr_A {w : World} {I : Imm} {ν : Nu} {ρ : List Nat} {os : List AO} (hh : HR E I ν H w) (hp : PickO (rn ρ H.length) H ρ os) (hn : ndup ρ = true) :
    HR (E.at 0) I (nuC ρ ν) os w ∧ ∀ b, FB (nuC ρ ν) os b → ∃ (i j : Nat) (o' : AO), ρ[i]? = some j ∧ H[j]? = some o' ∧ OB ν j o' = some b := by
  obtain ⟨g1, g2⟩ := hp.get
  have hob : ∀ (i : Nat) o, os[i]? = some o → ∃ (j : Nat) (o' : AO), ρ[i]? = some j ∧ H[j]? = some o' ∧ OR E w I (nuC ρ ν) i o ∧ OB (nuC ρ ν) i o = OB ν j o' := fun i o ho => by
    obtain ⟨j, o', h1, h2, h3⟩ := g2 i o ho
    have := or_A (E := E) hh.n h1 (hh.obj j o' h2) h3
    exact ⟨j, o', h1, h2, this.1, this.2⟩
  refine ⟨⟨by simp [nuC, g1], hh.below, hh.base, hh.imm, fun i o ho => ?_, fun i i' o o' b h1 h2 e1 e2 => ?_⟩, fun b ⟨i, o, ho, hb⟩ => ?_⟩
  · obtain ⟨j, o', _, _, h3, _⟩ := hob i o ho
    exact OR.env (E := E) (F := E.at 0) rfl h3
  · obtain ⟨j, q, k1, k2, _, k4⟩ := hob i o h1
    obtain ⟨j', q', l1, l2, _, l4⟩ := hob i' o' h2
    have := hh.disj j j' q q' b k2 l2 (k4.symm.trans e1) (l4.symm.trans e2)
    subst this
    exact ndup_get hn i i' j k1 l1
  · obtain ⟨j, q, k1, k2, _, k4⟩ := hob i o ho
    exact ⟨i, j, q, k1, k2, k4.symm.trans hb⟩

theorem frame_call {w w' : World} {I I' : Imm} {ν ν' : Nu} {ρ : List Nat} {os os' H' : List AO} (hh : HR E I ν H w) (hp : PickO (rn ρ H.length) H ρ os) (hn : ndup ρ = true)
    (hh' : HR (E.at 0) I' ν' os' w') (hfr : FR os.length w I (nuC ρ ν) os w' I' ν' os') (hput : PutO (rn ρ H.length) ρ os' H H') :
    ν.le (nuF ρ H.length os'.length ν ν') ∧ HR E I' (nuF ρ H.length os'.length ν ν') H' w' ∧ FR E.k w I ν H w' I' (nuF ρ H.length os'.length ν ν') H' := by
  obtain ⟨p1, p2, p3, p4, p5⟩ := hput.get hn
  have hρ : ∀ (i j : Nat), ρ[i]? = some j → j < H.length := fun i j h => (p3 i j h).1
  obtain ⟨_, hfb⟩ := hr_A hh hp hn
  have hol : ρ.length = os.length := hp.get.1
  have hle : ν.le (nuF ρ H.length os'.length ν ν') := by
    have hag : ∀ (i j : Nat), ρ[i]? = some j → ν.top j ≤ ν'.top i ∧ ∀ ver, ver ≤ ν.top j → ν'.val i ver = ν.val j ver := fun i j h => by
      have hi : i < ρ.length := (List.getElem?_eq_some_iff.1 h).1
      obtain ⟨_, a2, a3⟩ := hfr.ag i (by omega) hi
      simp only [nuC, h, Option.getD_some] at a2 a3
      exact ⟨a2, a3⟩
    refine ⟨by simp only [nuF, hh.n]; omega, fun id hi => ?_, fun id ver hi hv => ?_⟩
    · simp only [nuF]
      cases e : invR ρ id with
      | some i => exact (hag i id (invR_some e)).1
      | none => simp only []; rw [if_pos (by rw [← hh.n]; exact hi)]; exact Nat.le_refl _
    · simp only [nuF]
      cases e : invR ρ id with
      | some i => exact (hag i id (invR_some e)).2 ver hv
      | none => simp only []; rw [if_pos (by rw [← hh.n]; exact hi)]
  have hkeep : ∀ (j : Nat) o b, H[j]? = some o → (∀ i : Nat, ρ[i]? ≠ some j) → OB ν j o = some b → ¬ FB (nuC ρ ν) os b := fun j o b hj hne hb hf => by
    obtain ⟨i, j', o', h1, h2, h3⟩ := hfb b hf
    have := hh.disj j j' o o' b hj h2 hb h3
    subst this
    exact hne i h1
  have hcase : ∀ (j : Nat) o, H'[j]? = some o → (j < H.length ∧ (∀ i : Nat, ρ[i]? ≠ some j) ∧ H[j]? = some o) ∨ ∃ (i : Nat) (q : AO), os'[i]? = some q ∧ rn ρ H.length i = j ∧ RnF (rn ρ H.length) q o := fun j o ho => by
    rcases Nat.lt_or_ge j H.length with hj | hj
    · cases e : invR ρ j with
      | none => exact .inl ⟨hj, invR_none e, by rw [← p4 j hj (invR_none e)]; exact ho⟩
      | some i =>
        obtain ⟨_, q, o', h1, h2, h3⟩ := p3 i j (invR_some e)
        rw [ho] at h2
        injection h2 with h2
        subst h2
        exact .inr ⟨i, q, h1, rn_in (invR_some e), h3⟩
    · obtain ⟨q, h1, h2⟩ := p5 j o hj ho
      exact .inr ⟨_, q, h1, by rw [rn_out (by omega)]; omega, h2⟩
  have hB : ∀ (i j : Nat) q o, os'[i]? = some q → rn ρ H.length i = j → RnF (rn ρ H.length) q o → OR E w' I' (nuF ρ H.length os'.length ν ν') j o ∧ ∀ b, OB (nuF ρ H.length os'.length ν ν') j o = some b → OB ν' i q = some b := fun i j q o h1 h2 h3 =>
    or_B hn hρ hh'.n p1 h2 (OR.env (E := E.at 0) (F := E) rfl (hh'.obj i q h1)) h3
  have hold : ∀ (j : Nat) o, H[j]? = some o → OB (nuF ρ H.length os'.length ν ν') j o = OB ν j o := fun j o h => OB_same (hh.obj j o h) hle (hh.idlt h)
  refine ⟨hle, ⟨by simp only [nuF]; rw [p2], hh'.below, hh'.base, hh'.imm, fun j o ho => ?_, fun j j' o o' b h1 h2 e1 e2 => ?_⟩, ⟨hfr.imm, hfr.size, fun b o h => ?_, fun b hb hnf => ?_, fun b ⟨j, o, ho, hb⟩ => ?_, hle.ag _, fun j _ h => ?_⟩⟩
  · rcases hcase j o ho with ⟨h1, h2, h3⟩ | ⟨i, q, h1, h2, h3⟩
    · have hor := hh.obj j o h3
      refine hor.mono hfr.imm hle (hh.idlt h3) ?_ (fun b hb => hfr.keep b (OB_lt hor hb).1 (hkeep j o b h3 h2 hb)) (fun b o' hb hi => ?_)
      · simp only [nuF]
        cases e : invR ρ j with
        | some i => exact absurd (invR_some e) (h2 i)
        | none => simp only []; rw [if_pos h1]
      · rcases hfr.new b o' hi with k | k | k
        · exact k
        · exact absurd k (hkeep j o b h3 h2 hb)
        · have := (OB_lt hor hb).1; omega
    · exact (hB i j q o h1 h2 h3).1
  · rcases hcase j o h1 with ⟨a1, a2, a3⟩ | ⟨i, q, a1, a2, a3⟩ <;> rcases hcase j' o' h2 with ⟨b1, b2, b3⟩ | ⟨i', q', b1, b2, b3⟩
    · rw [hold j o a3] at e1
      rw [hold j' o' b3] at e2
      exact hh.disj j j' o o' b a3 b3 e1 e2
    · rw [hold j o a3] at e1
      have e2' := (hB i' j' q' o' b1 b2 b3).2 b e2
      rcases hfr.foot b ⟨i', q', b1, e2'⟩ with k | k
      · exact absurd k (hkeep j o b a3 a2 e1)
      · have := (OB_lt (hh.obj j o a3) e1).1; omega
    · rw [hold j' o' b3] at e2
      have e1' := (hB i j q o a1 a2 a3).2 b e1
      rcases hfr.foot b ⟨i, q, a1, e1'⟩ with k | k
      · exact absurd k (hkeep j' o' b b3 b2 e2)
      · have := (OB_lt (hh.obj j' o' b3) e2).1; omega
    · have := hh'.disj i i' q q' b a1 b1 ((hB i j q o a1 a2 a3).2 b e1) ((hB i' j' q' o' b1 b2 b3).2 b e2)
      subst this
      exact a2.symm.trans b2
  · rcases hfr.new b o h with k | k | k
    · exact .inl k
    · obtain ⟨i, j, o', h1, h2, h3⟩ := hfb b k
      exact .inr (.inl ⟨j, o', h2, h3⟩)
    · exact .inr (.inr k)
  · refine hfr.keep b hb fun hf => hnf ?_
    obtain ⟨i, j, o', h1, h2, h3⟩ := hfb b hf
    exact ⟨j, o', h2, h3⟩
  · rcases hcase j o ho with ⟨h1, h2, h3⟩ | ⟨i, q, h1, h2, h3⟩
    · rw [hold j o h3] at hb
      exact .inl ⟨j, o, h3, hb⟩
    · rcases hfr.foot b ⟨i, q, h1, (hB i j q o h1 h2 h3).2 b hb⟩ with k | k
      · obtain ⟨i', j', o', k1, k2, k3⟩ := hfb b k
        exact .inl ⟨j', o', k2, k3⟩
      · exact .inr k
  · have hj := (List.getElem?_eq_some_iff.1 h).1
    cases e : invR ρ j with
    | none => exact ⟨by simp only [nuF, e]; rw [if_pos hj], by rw [p4 j hj (invR_none e)]; exact h⟩
    | some i =>
      have hi := (List.getElem?_eq_some_iff.1 (invR_some e)).1
      obtain ⟨_, q, o', h1, h2, h3⟩ := p3 i j (invR_some e)
      have hos : os[i]? = some .gone := by
        have hi' : i < os.length := by omega
        obtain ⟨j0, o0, g1, g2, g3⟩ := hp.get.2 i os[i] (List.getElem?_eq_getElem hi')
        rw [invR_some e] at g1
        injection g1 with g1
        subst g1
        rw [h] at g2
        injection g2 with g2
        subst g2
        rw [List.getElem?_eq_getElem hi']
        generalize os[i] = q0 at g3
        cases g3
        rfl
      obtain ⟨t1, t2⟩ := hfr.gone i (by omega) hos
      rw [h1] at t2
      injection t2 with t2
      subst t2
      have h4 : o' = .gone := by
        cases h3 with
        | of h3 => cases h3; rfl
        | forget => rfl
      subst h4
      refine ⟨?_, h2⟩
      simp only [nuF, e]
      rw [t1]
      simp only [nuC, invR_some e, Option.getD_some]

/-- A call that is given objects: ρ: which of the caller's. -/
theorem al_acall (ρ : List Nat) {f : Operand} {asq : List Operand} {tys : Array TypeId} {g : Nat} [fn : FN E.P g] {caps xs ys : List AV} {os : List AO} {R : AV → List AO → Prop} {ty : TypeId} {pos : String} {after : Array Edge} {d : Nat}
    (hf : ev sl f = some (.fn g caps)) (ha : evs sl asq = some xs) (spec : ACalls (E.at 0) g ys os R) (hx : RnL (rn ρ H.length) ys (xs ++ caps)) (hp : PickO (rn ρ H.length) H ρ os) (hn : ndup ρ = true) (hd : Nat.blt d N = true)
    (h : ∀ rv os', R rv os' → ∃ rv' H', Rn (rn ρ H.length) rv rv' ∧ PutO (rn ρ H.length) ρ os' H H' ∧ AL E N ops Q rest ⟨(d, rv') :: sl, H'⟩) : AL E N ops Q (⟨some d, .call { callee := .value f, args := asq.toArray, argTypes := tys }, ty, pos, after, none⟩ :: rest) ⟨sl, H⟩ := by
  intro I ν a w hs w0 I0 ν0 o0 hf0
  obtain ⟨cvs, e1, e2, e3⟩ := fn_inv (ev_ok hs.sl hf)
  obtain ⟨e4, e5⟩ := evs_ok hs.sl asq ha
  refine wpList_plain rfl fun K hK => ?_
  unfold Oper.wp
  have hrun : (execOp a.eval ⟨some d, .call { callee := .value f, args := asq.toArray, argTypes := tys }, ty, pos, after, none⟩).run E.P w = .ok (.enter g (asq.map a.eval ++ cvs).toArray) w := by
    simp [execOp, resolve, e1, Deferred.ofValue, invoke, run_callFunc]
  rw [hrun, Oper.upon_enter]
  have hargs := append_get (T := VR w I ν) (p := xs) (q := caps) (r := asq.map a.eval) (s := cvs) (by simp [e4]) e5 e3
  have hh := hs.hr
  obtain ⟨x1, x2, x3⟩ := hx.get
  refine (spec I (nuC ρ ν) w (asq.map a.eval ++ cvs) (hr_A hh hp hn).1 (by rw [x1]; simp [e4, e2]) (fun j x v h1 h2 => ?_)).mono ?_
  · obtain ⟨y, hy, hxy⟩ := x2 j x h1
    exact rn_A hh.n (hargs j y v hy h2) hxy
  rintro e w' ⟨rv, os', I', ν', v, hR, rfl, hv, hh', hfr⟩
  obtain ⟨rv', H', hrv, hput, hal⟩ := h rv os' hR
  obtain ⟨p1, p2, p3, p4, p5⟩ := hput.get hn
  obtain ⟨hle, hr2, hf2⟩ := frame_call hh hp hn hh' hfr hput
  have hv2 := rn_B (ν := ν) hn (fun i j h => (p3 i j h).1) hh'.n p1 hv hrv
  exact hK _ _ (hal I' _ _ w' ⟨hr2, (hs.sl.mono hfr.imm hle).put d hv2 (by rw [hs.nt]; simpa [Nat.blt_eq] using hd), hs.df, by simp [Act.put, hs.nt]⟩ w0 I0 ν0 o0 (hf0.trans hf2))
end
end Go.Proofs.YtnjolbnbpfjdiaaDoor.L

namespace Go.Proofs.YtnjolbnbpfjdiaaDoor.L
open Go Go.RowKit
set_option linter.unusedVariables false
set_option linter.unusedSimpArgs false

/-- A kind of key. -/
inductive KD where
  | one (k : SK)
  | agg (ks : List SK)
class KK (P : Program) (t : Nat) (kd : outParam KD) : Prop where
  out : match kd with
    | .one (.int k) => P.underlying t = some (.int k)
    | .one .bool => P.underlying t = some .bool
    | .one .str => P.underlying t = some .string
    | .agg ks => EQ P t ks
instance {P : Program} {t n b : Nat} {k : IntKind} {z : Value} [ti : TI P t (.int k) n b z] : KK P t (.one (.int k)) := ⟨ti.u⟩
instance {P : Program} {t n b : Nat} {z : Value} [ti : TI P t .string n b z] : KK P t (.one .str) := ⟨ti.u⟩
instance {P : Program} {t : Nat} {ks : List SK} [e : EQ P t ks] : KK P t (.agg ks) := ⟨e⟩

inductive OKk : KD → AV → Prop where
  | int {k : IntKind} {n : Int} : OKk (.one (.int k)) (.int k n)
  | bool {b : Bool} : OKk (.one .bool) (.bool b)
  | str {s : List UInt8} : OKk (.one .str) (.str s)
  | agg {ks : List SK} {cs : List AV} (h : OfK ks cs) : OKk (.agg ks) (.agg cs)

def keq : AV → AV → Bool
  | .int _ m, .int _ n => decide (m = n)
  | .bool m, .bool n => decide (m = n)
  | .str m, .str n => decide (m = n)
  | .agg cs, .agg ds => eqC cs ds
  | _, _ => false

/-- A key's value. -/
inductive KV : KD → AV → Value → Prop where
  | int {k : IntKind} {n : Int} : KV (.one (.int k)) (.int k n) (.int k n)
  | bool {b : Bool} : KV (.one .bool) (.bool b) (.bool b)
  | str {s : List UInt8} : KV (.one .str) (.str s) (.string ⟨s.toArray⟩)
  | agg {ks : List SK} {cs : List AV} {vs : List Value} (h : OfK ks cs) (hl : cs.length = vs.length) (hx : ∀ (w : World) (I : Imm) (j : Nat) x v, cs[j]? = some x → vs[j]? = some v → VR w I nu0 x v) : KV (.agg ks) (.agg cs) (.agg vs.toArray)

theorem OfK.get {ks : List SK} : ∀ {cs : List AV}, OfK ks cs → ∀ (j : Nat) x, cs[j]? = some x → (∃ k n, x = .int k n) ∨ (∃ b, x = .bool b) ∨ ∃ s, x = .str s := by
  induction ks with
  | nil => intro cs h j x hx; cases h; simp at hx
  | cons k ks ih =>
    intro cs h j x hx
    cases h with
    | int h => cases j with
      | zero => simp at hx; subst hx; exact .inl ⟨_, _, rfl⟩
      | succ j => exact ih h j x (by simpa using hx)
    | bool h => cases j with
      | zero => simp at hx; subst hx; exact .inr (.inl ⟨_, rfl⟩)
      | succ j => exact ih h j x (by simpa using hx)
    | str h => cases j with
      | zero => simp at hx; subst hx; exact .inr (.inr ⟨_, rfl⟩)
      | succ j => exact ih h j x (by simpa using hx)

theorem KV.ok {kd : KD} {x : AV} {v : Value} (h : KV kd x v) : OKk kd x := by
  cases h with
  | int => exact .int
  | bool => exact .bool
  | str => exact .str
  | agg h _ _ => exact .agg h
theorem KV.vr {kd : KD} {x : AV} {v : Value} (h : KV kd x v) (w : World) (I : Imm) : VR w I nu0 x v := by
  cases h with
  | int => exact .pure (.int _ _)
  | bool => exact .pure (.bool _)
  | str => exact .pure (.str _)
  | agg h hl hx => exact .agg _ _ hl (hx w I)
theorem KV.bits {kd : KD} {x : AV} {v : Value} (h : KV kd x v) : Instr.sameBits 10000 v v = true := by
  cases h with
  | int => simp [Instr.sameBits]
  | bool => simp [Instr.sameBits]
  | str => simp only [Instr.sameBits]; rw [MapKept.bytes_beq]
  | @agg ks cs vs h hl hx =>
    simp only [Instr.sameBits, beq_self_eq_true, Bool.true_and, List.toList_toArray, List.all_eq_true]
    rintro ⟨p, q⟩ hpq
    obtain ⟨j, hj⟩ := List.mem_iff_getElem?.1 hpq
    rw [List.getElem?_zip_eq_some] at hj
    obtain ⟨h1, h2⟩ := hj
    rw [h1] at h2
    injection h2 with h2
    simp only at h2
    subst h2
    have hlt : j < cs.length := by rw [hl]; exact (List.getElem?_eq_some_iff.1 h1).1
    have e1 := List.getElem?_eq_getElem hlt
    have p := hx default (fun _ _ => False) j _ _ e1 h1
    rcases h.get j _ e1 with ⟨k, n, e⟩ | ⟨b, e⟩ | ⟨s, e⟩ <;> rw [e] at p
    · have p := p.int_inv; simp only at p; subst p; simp [Instr.sameBits]
    · have p := p.bool_inv; simp only at p; subst p; simp [Instr.sameBits]
    · have p := p.str_inv; simp only at p; subst p; simp only [Instr.sameBits]; rw [MapKept.bytes_beq]

/-- Where a key lies. -/
def mfind (x : AV) : List (AV × AV) → Nat → Option Nat
  | [], _ => none
  | p :: r, i => if keq x p.1 = true then some i else mfind x r (i + 1)
/-- A key's value. -/
def mget (x : AV) : List (AV × AV) → Option AV
  | [] => none
  | p :: r => if keq x p.1 = true then some p.2 else mget x r
/-- A key set. -/
def mset (x y : AV) : List (AV × AV) → List (AV × AV)
  | [] => [(x, y)]
  | p :: r => if keq x p.1 = true then (p.1, y) :: r else p :: mset x y r
end Go.Proofs.YtnjolbnbpfjdiaaDoor.L

namespace Go.Proofs.YtnjolbnbpfjdiaaDoor.L
open Go Go.RowKit
set_option linter.unusedVariables false
set_option linter.unusedSimpArgs false

section
variable {E : Env} {N : Nat} {ops : Array Oper} {Q : Exit → St → Prop} {sl : Slots} {H H' : List AO} {rest : List Oper} {I : Imm} {ν : Nu} {w : World}

/-! ### a range over a map -/
/-- How many are left. -/
def leftN (n : Nat) (seen : List Nat) : Nat := ((List.range n).filter fun i => !seen.contains i).length
end
end Go.Proofs.YtnjolbnbpfjdiaaDoor.L

namespace Go.Proofs.YtnjolbnbpfjdiaaDoor.L
open Go Go.RowKit
set_option linter.unusedVariables false
set_option linter.unusedSimpArgs false

section
variable {P : Program} {ops : Array Oper} {Q : Exit → Act → World → Prop} {md : Region.Mode} {S S' : Array Bool → World → Prop}

/-- Whatever order is picked, and S holds behind each operation: S may speak of what has come up. -/
def wpAnyP (P : Program) (md : Region.Mode) (ops : Array Oper) (Q : Exit → Act → World → Prop) (S : Array Bool → World → Prop) : Nat → Array Bool → Act → World → Prop
  | 0, L, a, w => Region.ready md ops L = [] ∧ Q .normal a w
  | n + 1, L, a, w => (Region.ready md ops L = [] → Q .normal a w) ∧
    ∀ i ∈ Region.ready md ops L, wpOp P ops Q i (fun a' w' => S (L.setIfInBounds i true) w' ∧ wpAnyP P md ops Q S n (L.setIfInBounds i true) a' w') a w

theorem wpAny_of_P : ∀ (n : Nat) (L : Array Bool) (a : Act) (w : World), wpAnyP P md ops Q S n L a w → wpAny P md ops Q n L a w
  | 0, _, _, _, h => h
  | n + 1, _, _, _, h => ⟨h.1, fun i hi => wpOp_mono (fun a' w' h' => wpAny_of_P n _ a' w' h'.2) (h.2 i hi)⟩

def LLe (L L' : Array Bool) : Prop := ∀ k, L.getD k true = true → L'.getD k true = true
theorem LLe.set (L : Array Bool) (i : Nat) : LLe L (L.setIfInBounds i true) := fun k h => by
  by_cases e : i = k
  · subst e
    by_cases hi : i < L.size
    · simp [hi]
    · simp [hi]
  · rw [getD_set_ne true e]; exact h
theorem set_self (L : Array Bool) (i : Nat) : (L.setIfInBounds i true).getD i true = true := by
  by_cases hi : i < L.size
  · simp [hi]
  · simp [hi]

theorem wpAnyP_mono : ∀ (n : Nat) (L : Array Bool) (a : Act) (w : World), (∀ L' w', LLe L L' → S L' w' → S' L' w') → wpAnyP P md ops Q S n L a w → wpAnyP P md ops Q S' n L a w
  | 0, _, _, _, _, h => h
  | n + 1, L, _, _, hS, h => ⟨h.1, fun i hi => wpOp_mono (fun a' w' h' => ⟨hS _ _ (LLe.set L i) h'.1, wpAnyP_mono n _ a' w' (fun L' w' hl hs => hS L' w' (fun k hk => hl k (LLe.set L i k hk)) hs) h'.2⟩) (h.2 i hi)⟩

theorem wpAnyP_first {i : Nat} {oi : Oper} {v : Value} {R : Array Bool} (hi : ops[i]? = some oi) (hsel : ∀ (j : Nat) (o : Oper) cs b, ops[j]? = some o → o.op ≠ .select cs b)
    (hQ : ∀ c a w, Q (.panic c) (a.put oi.dst v) w → Q (.panic c) a w) (hRs : R.size = ops.size) (hR : ∀ j ∈ Region.ready md ops R, j = i) (hS : ∀ L w, S (L.setIfInBounds i true) w ↔ S L w) :
    ∀ (n : Nat) (L : Array Bool) (a : Act) (w : World), L.size = ops.size → LLe L R →
      (∀ j oj, ops[j]? = some oj → j ≠ i → L.getD j true = false → (∀ e ∈ oj.after, Region.binds md e = true → e.on ≠ i) → oi.apart ops oj = true) →
      i ∈ Region.ready md ops L → YieldsIf P ops (fun w' => ∃ L', LLe L L' ∧ LLe L' R ∧ S L' w') oi v a → S L w →
      wpAnyP P md ops Q S n (L.setIfInBounds i true) (a.put oi.dst v) w → wpAnyP P md ops Q S (n + 1) L a w := by
  intro n
  induction n with
  | zero =>
    intro L a w hLs hLR _ hr hy hSL H
    refine ⟨fun h => (by rw [h] at hr; cases hr), fun j hj => ?_⟩
    by_cases hji : j = i
    · subst hji; exact hy.wpOp hi ⟨L, fun _ h => h, hLR, hSL⟩ ⟨(hS L w).2 hSL, H⟩
    · have := ready_mono hj hji
      rw [H.1] at this
      cases this
  | succ n ih =>
    intro L a w hLs hLR hfree hr hy hSL H
    refine ⟨fun h => (by rw [h] at hr; cases hr), fun j hj => ?_⟩
    by_cases hji : j = i
    · subst hji; exact hy.wpOp hi ⟨L, fun _ h => h, hLR, hSL⟩ ⟨(hS L w).2 hSL, H⟩
    · have h1 := H.2 j (ready_mono hj hji)
      obtain ⟨hjun, oj, hoj, hall⟩ := mem_ready.1 hj
      have hjs : j < L.size := by rw [hLs]; exact (Array.getElem?_eq_some_iff.1 hoj).1
      have hnot : ∀ e ∈ oj.after, Region.binds md e = true → e.on ≠ i := fun e he hb heq => by
        have h1 := hall e he hb
        have h0 := (mem_ready.1 hr).1
        rw [heq] at h1
        rcases Nat.lt_or_ge i L.size with h' | h'
        · simp [h'] at h0 h1; rw [h0] at h1; cases h1
        · simp [Array.getElem?_eq_none h'] at h1
      have hjR : R.getD j true = true := by
        cases hRj : R.getD j true with
        | true => rfl
        | false =>
          refine absurd (hR j (mem_ready.2 ⟨hRj, oj, hoj, fun e he hb => ?_⟩)) hji
          have h2 := hall e he hb
          have hlt : e.on < L.size := by
            rcases Nat.lt_or_ge e.on L.size with h' | h'
            · exact h'
            · simp [Array.getElem?_eq_none h'] at h2
          have h3 : L.getD e.on true = true := by simpa [hlt] using h2
          have h4 := hLR _ h3
          have hlt' : e.on < R.size := by rw [hRs, ← hLs]; exact hlt
          simpa [hlt'] using h4
      have hLR' : LLe (L.setIfInBounds j true) R := fun k hk => by
        by_cases e : j = k
        · subst e; exact hjR
        · rw [getD_set_ne true e] at hk; exact hLR k hk
      have h2 := wpOp_putIf hoj (hfree j oj hoj hji hjun hnot) (fun cs b => hsel i oi cs b hi) (fun cs b => hsel j oj cs b hoj) hQ hy h1
      refine wpOp_mono (fun a' w' h3 => ?_) h2
      have hc : (L.setIfInBounds i true).setIfInBounds j true = (L.setIfInBounds j true).setIfInBounds i true := Array.setIfInBounds_comm _ _ (Ne.symm hji)
      obtain ⟨k1, k2, k3⟩ := h3
      rw [hc] at k2 k3
      have k4 := (hS _ _).1 k2
      refine ⟨k4, ih (L.setIfInBounds j true) a' w' (by simpa using hLs) hLR' (fun k ok hk hki hun hno => ?_) (ready_mono hr (Ne.symm hji)) ?_ k4 k3⟩
      · refine hfree k ok hk hki ?_ hno
        by_cases hjk : j = k
        · subst hjk; exact hjun
        · rw [getD_set_ne true hjk] at hun; exact hun
      · exact k1.imp (fun ⟨g1, g2⟩ => ⟨g1, fun w2 ⟨L', l1, l2, l3⟩ => g2 w2 ⟨L', fun k hk => l1 k (LLe.set L j k hk), l2, l3⟩⟩) id

theorem wp_monoQ {o : Oper} {a : Act} {w : World} {K : Act → World → Prop} {Q' : Exit → Act → World → Prop} (h : ∀ e a w, e ≠ .normal → Q e a w → Q' e a w) (hh : o.wp P a w K Q) : o.wp P a w K Q' := by
  unfold Oper.wp at *
  generalize (execOp a.eval o).run P w = r at *
  cases r with
  | ok n w' =>
    cases n <;> simp only [Oper.upon] at hh ⊢ <;>
      first
        | exact hh
        | exact h _ _ _ (by simp) hh
        | exact Calls.mono hh (fun e w'' he => by cases e <;> first | exact he | exact h _ _ _ (by simp) he | exact he.imp fun a he => he.imp fun w he => h _ _ _ (by simp) he)
        | exact Rows.mono hh (fun _ _ he => he)
  | halt x w' => cases x <;> simp only [Oper.upon] at hh ⊢ <;> first | exact hh | exact h _ _ _ (by simp) hh
end

/-! ### ids in lists; objects left out, put back -/
def inl (n : Nat) : List Nat → Bool
  | [] => false
  | x :: r => match Nat.beq x n with
    | true => true
    | false => inl n r
/-- Those of G are left out. -/
def gnl (G : List Nat) : Nat → List AO → List AO
  | _, [] => []
  | i, h :: hs => (match inl i G with
    | true => .gone
    | false => h) :: gnl G (i + 1) hs
/-- All but those of T are left out. -/
def mkl (T : List Nat) : Nat → List AO → List AO
  | _, [] => []
  | i, h :: hs => (match inl i T with
    | true => h
    | false => .gone) :: mkl T (i + 1) hs
/-- All but those of T are put back. -/
def rsl (T : List Nat) : Nat → List AO → List AO → List AO
  | _, [], ys => ys
  | _, _ :: _, [] => []
  | i, h :: hs, y :: ys => (match inl i T with
    | true => y
    | false => h) :: rsl T (i + 1) hs ys

theorem gnl_get (G : List Nat) : ∀ (H : List AO) (i k : Nat) o, (gnl G i H)[k]? = some o → o = .gone ∨ (inl (i + k) G = false ∧ H[k]? = some o) := by
  intro H
  induction H with
  | nil => intro i k o h; simp [gnl] at h
  | cons x r ih =>
    intro i k o h
    cases k with
    | zero =>
      simp only [gnl, List.getElem?_cons_zero, Option.some.injEq] at h
      split at h
      · exact .inl h.symm
      · rename_i e; subst h; exact .inr ⟨e, rfl⟩
    | succ k =>
      simp only [gnl, List.getElem?_cons_succ] at h
      rcases ih _ _ _ h with h | ⟨h1, h2⟩
      · exact .inl h
      · exact .inr ⟨by rw [← h1]; congr 1; omega, h2⟩
theorem gnl_len (G : List Nat) : ∀ (H : List AO) (i : Nat), (gnl G i H).length = H.length := by
  intro H
  induction H with
  | nil => intro i; rfl
  | cons x r ih => intro i; simp [gnl, ih]
theorem mkl_len (T : List Nat) : ∀ (H : List AO) (i : Nat), (mkl T i H).length = H.length := by
  intro H
  induction H with
  | nil => intro i; rfl
  | cons x r ih => intro i; simp [mkl, ih]
theorem mkl_get (T : List Nat) : ∀ (H : List AO) (i k : Nat) o, (mkl T i H)[k]? = some o → o = .gone ∨ (inl (i + k) T = true ∧ H[k]? = some o) := by
  intro H
  induction H with
  | nil => intro i k o h; simp [mkl] at h
  | cons x r ih =>
    intro i k o h
    cases k with
    | zero =>
      simp only [mkl, List.getElem?_cons_zero, Option.some.injEq] at h
      split at h
      · rename_i e; subst h; exact .inr ⟨e, rfl⟩
      · exact .inl h.symm
    | succ k =>
      simp only [mkl, List.getElem?_cons_succ] at h
      rcases ih _ _ _ h with h | ⟨h1, h2⟩
      · exact .inl h
      · exact .inr ⟨by rw [← h1]; congr 1; omega, h2⟩
theorem mkl_gone (T : List Nat) : ∀ (H : List AO) (i k : Nat), k < H.length → inl (i + k) T = false → (mkl T i H)[k]? = some .gone := by
  intro H
  induction H with
  | nil => intro i k h; simp at h
  | cons x r ih =>
    intro i k h he
    cases k with
    | zero =>
      rw [Nat.add_zero] at he
      simp [mkl, he]
    | succ k =>
      simp only [mkl, List.getElem?_cons_succ]
      exact ih _ _ (by simpa using h) (by rw [← he]; congr 1; omega)
theorem mkl_gone' (T : List Nat) : ∀ (H : List AO) (i k : Nat), H[k]? = some .gone → (mkl T i H)[k]? = some .gone := by
  intro H
  induction H with
  | nil => intro i k h; simp at h
  | cons x r ih =>
    intro i k h
    cases k with
    | zero =>
      simp only [List.getElem?_cons_zero, Option.some.injEq] at h
      subst h
      simp only [mkl, List.getElem?_cons_zero, Option.some.injEq]
      split <;> rfl
    | succ k =>
      simp only [mkl, List.getElem?_cons_succ]
      exact ih _ _ (by simpa using h)
theorem rsl_len (T : List Nat) : ∀ (H ys : List AO) (i : Nat), H.length ≤ ys.length → (rsl T i H ys).length = ys.length := by
  intro H
  induction H with
  | nil => intro ys i _; simp [rsl]
  | cons x r ih =>
    intro ys i h
    cases ys with
    | nil => simp at h
    | cons y ys => simp [rsl, ih ys (i + 1) (by simpa using h)]
theorem rsl_get (T : List Nat) : ∀ (H ys : List AO) (i k : Nat), H.length ≤ ys.length → (k < H.length ∧ inl (i + k) T = false ∧ (rsl T i H ys)[k]? = H[k]?) ∨ ((H.length ≤ k ∨ inl (i + k) T = true) ∧ (rsl T i H ys)[k]? = ys[k]?) := by
  intro H
  induction H with
  | nil => intro ys i k _; exact .inr ⟨.inl (Nat.zero_le _), by simp [rsl]⟩
  | cons x r ih =>
    intro ys i k h
    cases ys with
    | nil => simp at h
    | cons y ys =>
      cases k with
      | zero =>
        rw [Nat.add_zero]
        cases e : inl i T with
        | true => exact .inr ⟨.inr rfl, by simp [rsl, e]⟩
        | false => exact .inl ⟨by simp, rfl, by simp [rsl, e]⟩
      | succ k =>
        have e : i + 1 + k = i + (k + 1) := by omega
        rcases ih ys (i + 1) k (by simpa using h) with ⟨h1, h2, h3⟩ | ⟨h1, h3⟩
        · exact .inl ⟨by simpa using h1, by rw [← e]; exact h2, by simpa [rsl] using h3⟩
        · refine .inr ⟨?_, by simpa [rsl] using h3⟩
          rcases h1 with h1 | h1
          · exact .inl (by simpa using h1)
          · exact .inr (by rw [← e]; exact h1)

section
variable {E : Env} {I I1 : Imm} {ν ν1 : Nu} {w w1 : World} {H H1 : List AO}

theorem HR.less {H' : List AO} (hh : HR E I ν H w) (hl : H'.length = H.length) (hm : ∀ (id : Nat) o, H'[id]? = some o → o = .gone ∨ H[id]? = some o) : HR E I ν H' w := by
  refine ⟨by rw [hl]; exact hh.n, hh.below, hh.base, hh.imm, fun id o h => ?_, fun id id' o o' b h1 h2 e1 e2 => ?_⟩
  · rcases hm id o h with rfl | h
    · exact .gone
    · exact hh.obj id o h
  · rcases hm id o h1 with rfl | h1
    · simp [OB] at e1
    · rcases hm id' o' h2 with rfl | h2
      · simp [OB] at e2
      · exact hh.disj id id' o o' b h1 h2 e1 e2

theorem unmask (T : List Nat) (hh : HR E I ν H w) (hh1 : HR (E.at H.length) I1 ν1 H1 w1) (fr : FR H.length w I ν (mkl T 0 H) w1 I1 ν1 H1) :
    HR E I1 ν1 (rsl T 0 H H1) w1 ∧ FR E.k w I ν H w1 I1 ν1 (rsl T 0 H H1) ∧ ν.le ν1 ∧
      ∀ (id : Nat) o b, H[id]? = some o → inl id T = false → OB ν id o = some b → w1.heap[b]? = w.heap[b]? ∧ (rsl T 0 H H1)[id]? = some o ∧ OB ν1 id o = some b := by
  have hn : ∀ id, id < H.length → id < ν.n := fun id h => by rw [hh.n]; exact h
  have hlen : H.length ≤ H1.length := by
    rcases Nat.eq_zero_or_pos H.length with h | h
    · omega
    · have := (fr.ag (H.length - 1) (by omega) (hn _ (by omega))).1
      rw [hh1.n] at this
      omega
  have hle : ν.le ν1 := ⟨by rw [hh.n, hh1.n]; exact hlen, fun id hi => (fr.ag id (by rw [← hh.n]; exact hi) hi).2.1, fun id ver hi hv => (fr.ag id (by rw [← hh.n]; exact hi) hi).2.2 ver hv⟩
  have hFm : ∀ b, FB ν (mkl T 0 H) b → ∃ (id : Nat) (o : AO), inl id T = true ∧ H[id]? = some o ∧ OB ν id o = some b := by
    rintro b ⟨id, o, h1, h2⟩
    rcases mkl_get T H 0 id o h1 with rfl | ⟨h3, h4⟩
    · simp [OB] at h2
    · exact ⟨id, o, by simpa using h3, h4, h2⟩
  have hfree : ∀ (id : Nat) o b, H[id]? = some o → inl id T = false → OB ν id o = some b → ¬ FB ν (mkl T 0 H) b := fun id o b h1 h2 h3 hf => by
    obtain ⟨id', o', g1, g2, g3⟩ := hFm b hf
    have := hh.disj id id' o o' b h1 g2 h3 g3
    subst this
    rw [h2] at g1
    cases g1
  have hOB : ∀ (id : Nat) o, H[id]? = some o → OB ν1 id o = OB ν id o := fun id o h => OB_same (hh.obj id o h) hle (hh.idlt h)
  have hcase : ∀ (id : Nat) o, (rsl T 0 H H1)[id]? = some o → (inl id T = false ∧ H[id]? = some o) ∨ H1[id]? = some o := fun id o h => by
    rcases rsl_get T H H1 0 id hlen with ⟨h1, h2, h3⟩ | ⟨_, h3⟩
    · exact .inl ⟨by simpa using h2, by rw [← h3]; exact h⟩
    · exact .inr (by rw [← h3]; exact h)
  have hun : ∀ (id : Nat) o, H[id]? = some o → inl id T = false → (rsl T 0 H H1)[id]? = some o := fun id o h h2 => by
    rcases rsl_get T H H1 0 id hlen with ⟨_, _, h3⟩ | ⟨h1, _⟩
    · rw [h3]; exact h
    · rcases h1 with h1 | h1
      · have := (List.getElem?_eq_some_iff.1 h).1; omega
      · rw [Nat.zero_add, h2] at h1; cases h1
  have hold : ∀ (id : Nat) o b, H[id]? = some o → inl id T = false → OB ν id o = some b → w1.heap[b]? = w.heap[b]? := fun id o b h1 h2 h3 => fr.keep b (OB_lt (hh.obj id o h1) h3).1 (hfree id o b h1 h2 h3)
  have hapart : ∀ (id id' : Nat) o o' b, inl id T = false → H[id]? = some o → H1[id']? = some o' → OB ν id o = some b → OB ν1 id' o' = some b → False := fun id id' o o' b g1 g2 g3 g4 g5 => by
    rcases fr.foot b ⟨id', o', g3, g5⟩ with h | h
    · exact hfree id o b g2 g1 g4 h
    · have := (OB_lt (hh.obj id o g2) g4).1; omega
  refine ⟨⟨by rw [rsl_len T H H1 0 hlen]; exact hh1.n, hh1.below, hh1.base, hh1.imm, fun id o h => ?_, fun id id' o o' b h1 h2 e1 e2 => ?_⟩,
    ⟨fr.imm, fr.size, fun b o h => ?_, fun b hb hnf => fr.keep b hb fun hf => ?_, fun b ⟨id, o, h, h2⟩ => ?_, fun id _ hi => fr.ag id (by rw [← hh.n]; exact hi) hi, fun id _ h => ?_⟩, hle, fun id o b h1 h2 h3 => ⟨hold id o b h1 h2 h3, hun id o h1 h2, (hOB id o h1).trans h3⟩⟩
  · rcases hcase id o h with ⟨h1, h2⟩ | h2
    · have hlt := (List.getElem?_eq_some_iff.1 h2).1
      refine (hh.obj id o h2).mono fr.imm hle (hh.idlt h2) (fr.gone id hlt (mkl_gone T H 0 id hlt (by simpa using h1))).1 (fun b hb => hold id o b h2 h1 hb) (fun b o' hb hi => ?_)
      rcases fr.new b o' hi with k | k | k
      · exact k
      · exact absurd k (hfree id o b h2 h1 hb)
      · have := (OB_lt (hh.obj id o h2) hb).1; omega
    · exact OR.env (E := E.at H.length) (F := E) rfl (hh1.obj id o h2)
  · rcases hcase id o h1 with ⟨k1, k2⟩ | k2 <;> rcases hcase id' o' h2 with ⟨l1, l2⟩ | l2
    · rw [hOB id o k2] at e1
      rw [hOB id' o' l2] at e2
      exact hh.disj id id' o o' b k2 l2 e1 e2
    · rw [hOB id o k2] at e1
      exact absurd (hapart id id' o o' b k1 k2 l2 e1 e2) (fun h => h)
    · rw [hOB id' o' l2] at e2
      exact absurd (hapart id' id o' o b l1 l2 k2 e2 e1) (fun h => h)
    · exact hh1.disj id id' o o' b k2 l2 e1 e2
  · rcases fr.new b o h with h | h | h
    · exact .inl h
    · obtain ⟨id', o', _, g2, g3⟩ := hFm b h
      exact .inr (.inl ⟨id', o', g2, g3⟩)
    · exact .inr (.inr h)
  · obtain ⟨id', o', _, g2, g3⟩ := hFm b hf
    exact hnf ⟨id', o', g2, g3⟩
  · rcases hcase id o h with ⟨h1, h3⟩ | h3
    · rw [hOB id o h3] at h2
      exact .inl ⟨id, o, h3, h2⟩
    · rcases fr.foot b ⟨id, o, h3, h2⟩ with k | k
      · obtain ⟨id', o', _, g2, g3⟩ := hFm b k
        exact .inl ⟨id', o', g2, g3⟩
      · exact .inr k
  · have hlt := (List.getElem?_eq_some_iff.1 h).1
    obtain ⟨g1, g2⟩ := fr.gone id hlt (mkl_gone' T H 0 id h)
    refine ⟨g1, ?_⟩
    rcases rsl_get T H H1 0 id hlen with ⟨_, _, h3⟩ | ⟨_, h3⟩
    · rw [h3]; exact h
    · rw [h3]; exact g2
end
end Go.Proofs.YtnjolbnbpfjdiaaDoor.L

namespace Go.Proofs.YtnjolbnbpfjdiaaDoor.L
open Go Go.RowKit
set_option linter.unusedVariables false
set_option linter.unusedSimpArgs false

/-- A step of a plan: which operation; does it only look; which objects may change before it comes up; what may have come up before it. -/
structure PS where
  i : Nat
  q : Bool
  G : List Nat
  R : List Bool
/-- Which objects an operation changes. -/
def tau : List (Nat × List Nat) → Nat → List Nat
  | [], _ => []
  | (j, T) :: r, i => match Nat.beq j i with
    | true => T
    | false => tau r i
def allIn : List Nat → List Nat → Bool
  | [], _ => true
  | t :: r, G => match inl t G with
    | true => allIn r G
    | false => false
theorem allIn_get : ∀ {T G : List Nat}, allIn T G = true → ∀ t, inl t T = true → inl t G = true := by
  intro T
  induction T with
  | nil => intro G _ t h; simp [inl] at h
  | cons x r ih =>
    intro G h t ht
    simp only [allIn] at h
    split at h
    · rename_i hx
      simp only [inl] at ht
      split at ht
      · rename_i e
        rw [← Nat.eq_of_beq_eq_true e]; exact hx
      · exact ih h t ht
    · cases h
/-- n truths, by their bits. -/
def bl : Nat → Nat → List Bool
  | 0, _ => []
  | n + 1, m => Nat.beq (m % 2) 1 :: bl n (m / 2)
def qOK (ops : Array Oper) (τ : List (Nat × List Nat)) (L R : List Bool) (i : Nat) (G : List Nat) : Bool :=
  Region.free .any ops L.toArray i && (Region.ready .any ops L.toArray).contains i && Nat.beq R.length ops.size && (Region.ready .any ops R.toArray).all (fun j => Nat.beq j i) && (tau τ i).isEmpty &&
    (List.range ops.size).all fun j => (!L.toArray.getD j true || R.toArray.getD j true) && (!R.toArray.getD j true || (L.toArray.getD j true || allIn (tau τ j) G))
def planOK (ops : Array Oper) (τ : List (Nat × List Nat)) : List Bool → List PS → Bool
  | L, [] => (Region.ready .any ops L.toArray).isEmpty
  | L, p :: r => (match p.q with
    | true => qOK ops τ L p.R p.i p.G
    | false => Region.ready .any ops L.toArray == [p.i]) && planOK ops τ (L.set p.i true) r

/-- What stays as it is, as long as nothing comes up that changes it. -/
def SS (τ : List (Nat × List Nat)) (L : Array Bool) (I : Imm) (ν : Nu) (H : List AO) (w : World) : Array Bool → World → Prop := fun L' w' =>
  w.heap.size ≤ w'.heap.size ∧ (∀ b o, I b o → w'.cell? ⟨b, o, none⟩ = w.cell? ⟨b, o, none⟩) ∧
    ∀ (id : Nat) o b, H[id]? = some o → OB ν id o = some b → (∀ j, inl id (tau τ j) = true → L'.getD j true = true → L.getD j true = true) → w'.heap[b]? = w.heap[b]?

def LN (E : Env) (N : Nat) (w : World) (I : Imm) (ν : Nu) (objs : List AO) (Q : Exit → St → Prop) : Exit → Act → World → Prop := fun e a' w' => e = .normal ∧ Lift E N w I ν objs Q .normal a' w'

def HL (E : Env) (N : Nat) (ops : Array Oper) (τ : List (Nat × List Nat)) (Q : Exit → St → Prop) (pl : List PS) (σ : St) : Prop :=
  Region.noSelect ops = true → ∀ L : List Bool, L.length = ops.size → planOK ops τ L pl = true → ∀ I ν a w, SR E N I ν σ a w → ∀ w0 I0 ν0 o0, FR E.k w0 I0 ν0 o0 w I ν σ.objs →
    wpAnyP E.P .any ops (LN E N w0 I0 ν0 o0 Q) (SS τ L.toArray I ν σ.objs w) pl.length L.toArray a w
/-- The next operation is o. -/
def HO (E : Env) (N : Nat) (ops : Array Oper) (τ : List (Nat × List Nat)) (Q : Exit → St → Prop) (p : PS) (pl : List PS) (o : Oper) (σ : St) : Prop :=
  ops[p.i]? = some o → HL E N ops τ Q (p :: pl) σ
/-- The next operation is this one, and it is carried out. -/
def HW (E : Env) (N : Nat) (ops : Array Oper) (τ : List (Nat × List Nat)) (Q : Exit → St → Prop) (p : PS) (pl : List PS) (d : Option Nat) (op : Op) (ty : TypeId) (pos : String) (after : Array Edge) (σ : St) : Prop :=
  ∀ g : Option (Nat × Bool), (∀ I ν a w, SR E N I ν σ a w → Region.wanted ⟨d, op, ty, pos, after, g⟩ (yielded ops a.tmps) = true) → HO E N ops τ Q p pl ⟨d, op, ty, pos, after, g⟩ σ

theorem awp_held {E : Env} {N : Nat} {Q : Exit → St → Prop} {id : Nat} {l : List Oper} {σ : St} (τ : List (Nat × List Nat)) (pl : List PS) (hm : E.P.follows .mixedOrders = true) (hn : Region.noSelect l.toArray = true) (hl : Nat.beq pl.length l.length = true)
    (hp : planOK l.toArray τ (List.replicate l.length false) pl = true) (h : HL E N l.toArray τ Q pl σ) : AWp E N (.region id l.toArray true) Q σ := by
  intro I ν a w hs
  obtain ⟨h1, h2, h3⟩ := hs.hr.later (w' := { w with drawn := w.drawn + 1 }) ((Below.refl _ _).drew)
  have := h hn (List.replicate l.length false) (by simp) hp I ν a _ ⟨h1, hs.sl.mono h3 (Nu.le.refl ν), hs.df, hs.nt⟩ w I ν σ.objs h2
  have h4 := wpAny_of_P _ _ _ _ this
  rw [Nat.eq_of_beq_eq_true hl] at h4
  have h5 := wp_region_any (P := E.P) (ops := l.toArray) (id := id) (a := a) (w := w) (Q := LN E N w I ν σ.objs Q) hm (by simpa using h4)
  exact Code.wp_mono (fun e a' w' ⟨he, k⟩ => by subst he; exact k) h5

section
variable {E : Env} {N : Nat} {ops : Array Oper} {τ : List (Nat × List Nat)} {Q : Exit → St → Prop} {p : PS} {pl : List PS} {sl : Slots} {H : List AO}

theorem hl_op {o : Oper} {σ : St} (hi : ops[p.i]? = some o) (h : HO E N ops τ Q p pl o σ) : HL E N ops τ Q (p :: pl) σ := h hi

theorem hl_nil (h : Q .normal ⟨sl, H⟩) : HL E N ops τ Q [] ⟨sl, H⟩ := by
  intro hns L hL hp I ν a w hs w0 I0 ν0 o0 hf
  simp only [planOK, List.isEmpty_iff] at hp
  exact ⟨hp, rfl, ⟨sl, H⟩, I, ν, h, hs, hf⟩

theorem LN.panic {E : Env} {N : Nat} {w : World} {I : Imm} {ν : Nu} {objs : List AO} {Q : Exit → St → Prop} {e : Exit} {a : Act} {w' : World} (hn : e ≠ .normal) (h : LN E N w I ν objs Q e a w') {p : Prop} : p := absurd h.1 hn

/-- What only looks, or is passed over, is taken first. -/
theorem hl_first {L : List Bool} (hL : L.length = ops.size) (hns : Region.noSelect ops = true) (hp : planOK ops τ L (p :: pl) = true) (hq : p.q = true) {o : Oper} (hi : ops[p.i]? = some o) {v : Value} {σ σ' : St} {I : Imm} {ν : Nu} {a : Act} {w w0 : World} {I0 : Imm} {ν0 : Nu} {o0 : List AO}
    (hH : σ'.objs = σ.objs) (hs : SR E N I ν σ a w) (hf : FR E.k w0 I0 ν0 o0 w I ν σ.objs)
    (hy : (Region.wanted o (yielded ops a.tmps) = true ∧ ∀ w', Still ν (gnl p.G 0 σ.objs) I w w' → (execOp a.eval o).run E.P w' = .ok (.value v) w') ∨ (Region.wanted o (yielded ops a.tmps) = false ∧ v = undef))
    (hs' : SR E N I ν σ' (a.put o.dst v) w) (h : HL E N ops τ Q pl σ') : wpAnyP E.P .any ops (LN E N w0 I0 ν0 o0 Q) (SS τ L.toArray I ν σ.objs w) (p :: pl).length L.toArray a w := by
  simp only [planOK, hq, Bool.and_eq_true] at hp
  obtain ⟨hq1, hp'⟩ := hp
  simp only [qOK, Bool.and_eq_true, List.all_eq_true, List.mem_range] at hq1
  obtain ⟨⟨⟨⟨⟨g1, g2⟩, g3⟩, g4⟩, g5⟩, g6⟩ := hq1
  have hRs : p.R.length = ops.size := Nat.eq_of_beq_eq_true g3
  have hti : tau τ p.i = [] := by simpa [List.isEmpty_iff] using g5
  have hLR : LLe L.toArray p.R.toArray := fun k hk => by
    rcases Nat.lt_or_ge k ops.size with h1 | h1
    · have := (g6 k h1).1
      simpa [hk] using this
    · have : p.R.length ≤ k := by omega
      simp [this]
  have hh := h hns (L.set p.i true) (by simpa using hL) hp' I ν _ w hs' w0 I0 ν0 o0 (by rw [hH]; exact hf)
  rw [hH] at hh
  have hset : (L.set p.i true).toArray = L.toArray.setIfInBounds p.i true := by simp
  rw [hset] at hh
  refine wpAnyP_first (R := p.R.toArray) hi (Region.noSelect_spec hns) (fun c a w hh => LN.panic (by simp) hh) (by simpa using hRs) (fun j hj => ?_) (fun L' w' => ?_) _ _ _ _ (by simpa using hL) hLR (Region.free_spec hi g1) (by simpa using g2) ?_ ?_ (wpAnyP_mono _ _ _ _ (fun L' w' hl hs => ?_) hh)
  · exact Nat.eq_of_beq_eq_true (g4 j hj)
  · refine ⟨fun ⟨a1, a2, a3⟩ => ⟨a1, a2, fun id o b h1 h2 h3 => a3 id o b h1 h2 fun j hj hl => h3 j hj ?_⟩, fun ⟨a1, a2, a3⟩ => ⟨a1, a2, fun id o b h1 h2 h3 => a3 id o b h1 h2 fun j hj hl => h3 j hj (LLe.set L' p.i j hl)⟩⟩
    by_cases e : p.i = j
    · subst e; rw [hti] at hj; simp [inl] at hj
    · rw [getD_set_ne true e] at hl; exact hl
  · rcases hy with ⟨y1, y2⟩ | hy
    · refine .inl ⟨y1, fun w' ⟨L', l1, l2, a1, a2, a3⟩ => y2 w' ⟨a1, a2, fun id o b h1 h2 => ?_⟩⟩
      rcases gnl_get p.G σ.objs 0 id o h1 with rfl | ⟨h3, h4⟩
      · simp [OB] at h2
      · refine a3 id o b h4 h2 fun j hj hl => ?_
        cases hLj : L.toArray.getD j true with
        | true => rfl
        | false =>
          have hjs : j < ops.size := by
            rcases Nat.lt_or_ge j ops.size with h5 | h5
            · exact h5
            · have : L.length ≤ j := by omega
              simp [this] at hLj
          have := (g6 j hjs).2
          rw [l2 j hl, hLj] at this
          have := allIn_get (by simpa using this) id hj
          rw [Nat.zero_add, this] at h3
          cases h3
    · exact .inr hy
  · exact ⟨Nat.le_refl _, fun _ _ _ => rfl, fun _ _ _ _ _ _ => rfl⟩
  · obtain ⟨a1, a2, a3⟩ := hs
    exact ⟨a1, a2, fun id o b h1 h2 h3 => a3 id o b h1 h2 fun j hj hl => LLe.set _ _ _ (h3 j hj hl)⟩

theorem wpOp_skip {P : Program} {ops : Array Oper} {Q : Exit → Act → World → Prop} {i : Nat} {o : Oper} {K : Act → World → Prop} {a : Act} {w : World} (hi : ops[i]? = some o) (hw : Region.wanted o (yielded ops a.tmps) = false) (h : K (a.put o.dst undef) w) : wpOp P ops Q i K a w := by
  unfold wpOp
  simp only [hi, hw, Bool.false_eq_true, if_false]
  exact h
theorem wpOp_do {P : Program} {ops : Array Oper} {Q : Exit → Act → World → Prop} {i : Nat} {o : Oper} {K : Act → World → Prop} {a : Act} {w : World} (hi : ops[i]? = some o) (hw : Region.wanted o (yielded ops a.tmps) = true) (h : o.wp P a w K Q) : wpOp P ops Q i K a w := by
  unfold wpOp
  simp only [hi, hw, if_true]
  exact .inl h

/-- The one that may come up. -/
theorem hl_one {L : List Bool} (hL : L.length = ops.size) (hns : Region.noSelect ops = true) (hp : planOK ops τ L (p :: pl) = true) (hq : p.q = false) {o : Oper} (hi : ops[p.i]? = some o) {σ : St} {I : Imm} {ν : Nu} {a : Act} {w w0 : World} {I0 : Imm} {ν0 : Nu} {o0 : List AO}
    (hs : SR E N I ν σ a w) (hf : FR E.k w0 I0 ν0 o0 w I ν σ.objs)
    (h : wpOp E.P ops (LN E N w0 I0 ν0 o0 Q) p.i (fun a' w' => ∃ σ' I' ν', HL E N ops τ Q pl σ' ∧ SR E N I' ν' σ' a' w' ∧ FR E.k w I ν σ.objs w' I' ν' σ'.objs ∧
      ∀ (id : Nat) o b, σ.objs[id]? = some o → inl id (tau τ p.i) = false → OB ν id o = some b → w'.heap[b]? = w.heap[b]? ∧ σ'.objs[id]? = some o ∧ OB ν' id o = some b) a w) :
    wpAnyP E.P .any ops (LN E N w0 I0 ν0 o0 Q) (SS τ L.toArray I ν σ.objs w) (p :: pl).length L.toArray a w := by
  simp only [planOK, hq, Bool.and_eq_true, beq_iff_eq] at hp
  obtain ⟨hr, hp'⟩ := hp
  refine ⟨fun h0 => (by rw [hr] at h0; cases h0), fun j hj => ?_⟩
  have hrd : p.i ∈ Region.ready .any ops L.toArray := by rw [hr]; simp
  rw [hr] at hj
  obtain rfl : j = p.i := by simpa using hj
  refine wpOp_mono (fun a' w' ⟨σ', I', ν', k1, k2, k3, k4⟩ => ?_) h
  have hun : L.toArray.getD p.i true = false := (mem_ready.1 hrd).1
  have hset : (L.set p.i true).toArray = L.toArray.setIfInBounds p.i true := by simp
  have hnt : ∀ (L' : Array Bool) (id : Nat), L'.getD p.i true = true → (∀ j, inl id (tau τ j) = true → L'.getD j true = true → L.toArray.getD j true = true) → inl id (tau τ p.i) = false := fun L' id h1 h2 => by
    cases e : inl id (tau τ p.i) with
    | false => rfl
    | true => have := h2 p.i e h1; rw [hun] at this; cases this
  refine ⟨⟨k3.size, k3.imm.2, fun id o b h1 h2 h3 => (k4 id o b h1 (hnt _ id (set_self _ _) h3) h2).1⟩, ?_⟩
  have hh := k1 hns (L.set p.i true) (by simpa using hL) hp' I' ν' a' w' k2 w0 I0 ν0 o0 (hf.trans k3)
  rw [hset] at hh
  refine wpAnyP_mono _ _ _ _ (fun L' w2 hl hs2 => ?_) hh
  obtain ⟨a1, a2, a3⟩ := hs2
  refine ⟨Nat.le_trans k3.size a1, fun b o hb => (a2 b o (k3.imm.1 b o hb)).trans (k3.imm.2 b o hb), fun id o b h1 h2 h3 => ?_⟩
  obtain ⟨m1, m2, m3⟩ := k4 id o b h1 (hnt L' id (hl _ (set_self _ _)) h3) h2
  exact (a3 id o b m2 m3 fun j hj hl' => LLe.set _ _ _ (h3 j hj hl')).trans m1

/-! ### guards -/
theorem ho_n {d : Option Nat} {op : Op} {ty : TypeId} {pos : String} {after : Array Edge} {σ : St} (h : HW E N ops τ Q p pl d op ty pos after σ) : HO E N ops τ Q p pl ⟨d, op, ty, pos, after, none⟩ σ := h none fun _ _ _ _ _ => by simp [Region.wanted]
theorem ho_gy {d : Option Nat} {op : Op} {ty : TypeId} {pos : String} {after : Array Edge} {j t : Nat} {want b : Bool} (hj : (ops[j]?).bind (·.dst) = some t) (hb : lk sl t = some (.bool b)) (hw : b = want) (h : HW E N ops τ Q p pl d op ty pos after ⟨sl, H⟩) :
    HO E N ops τ Q p pl ⟨d, op, ty, pos, after, some (j, want)⟩ ⟨sl, H⟩ := h _ fun I ν a w hs => by
  subst hw
  simp [Region.wanted, yielded_of hs.sl hj hb]

theorem ho_skip {d : Nat} {op : Op} {ty : TypeId} {pos : String} {after : Array Edge} {g : Option (Nat × Bool)} (hw : ∀ I ν a w, SR E N I ν ⟨sl, H⟩ a w → Region.wanted ⟨some d, op, ty, pos, after, g⟩ (yielded ops a.tmps) = false) (hd : Nat.blt d N = true)
    (h : HL E N ops τ Q pl ⟨(d, .und) :: sl, H⟩) : HO E N ops τ Q p pl ⟨some d, op, ty, pos, after, g⟩ ⟨sl, H⟩ := by
  intro hi hns L hL hp I ν a w hs w0 I0 ν0 o0 hf
  have hs' : SR E N I ν ⟨(d, .und) :: sl, H⟩ (a.put (some d) undef) w := put_dst hs hd (.und _ rfl)
  cases hq : p.q with
  | true => exact hl_first (σ := ⟨sl, H⟩) (σ' := ⟨(d, .und) :: sl, H⟩) hL hns hp hq hi rfl hs hf (.inr ⟨hw I ν a w hs, rfl⟩) hs' h
  | false =>
    refine hl_one hL hns hp hq hi hs hf ?_
    refine wpOp_skip hi (hw I ν a w hs) ?_
    exact ⟨⟨(d, .und) :: sl, H⟩, I, ν, h, hs', FR.refl _ _ _ _, fun id o b h1 _ h2 => ⟨rfl, h1, h2⟩⟩
theorem ho_gnf {op : Op} {ty : TypeId} {pos : String} {after : Array Edge} {d j t : Nat} {b : Bool} (hj : (ops[j]?).bind (·.dst) = some t) (hb : lk sl t = some (.bool b)) (hw : b = true) (hd : Nat.blt d N = true) (h : HL E N ops τ Q pl ⟨(d, .und) :: sl, H⟩) :
    HO E N ops τ Q p pl ⟨some d, op, ty, pos, after, some (j, false)⟩ ⟨sl, H⟩ := ho_skip (fun I ν a w hs => by subst hw; simp [Region.wanted, yielded_of hs.sl hj hb]) hd h
/-! ### what only looks; what changes something -/
theorem hw_v {op : Op} {ty : TypeId} {pos : String} {after : Array Edge} {d : Nat} {x : AV} (hv : OV E sl (gnl p.G 0 H) op x) (hd : Nat.blt d N = true) (h : HL E N ops τ Q pl ⟨(d, x) :: sl, H⟩) (hq : p.q = true := by rfl) :
    HW E N ops τ Q p pl (some d) op ty pos after ⟨sl, H⟩ := by
  intro g hg hi hns L hL hp I ν a w hs w0 I0 ν0 o0 hf
  obtain ⟨v, hx, hr⟩ := hv I ν a w (hs.hr.less (gnl_len _ _ _) fun id o h => (gnl_get p.G H 0 id o h).imp (fun e => e) (fun e => e.2)) hs.sl
  exact hl_first (σ := ⟨sl, H⟩) (σ' := ⟨(d, x) :: sl, H⟩) hL hns hp hq hi rfl hs hf (.inl ⟨hg I ν a w hs, fun w' hw => hr _ w' rfl hw⟩) (put_dst hs hd hx) h

def HQ (E : Env) (N : Nat) (ops : Array Oper) (τ : List (Nat × List Nat)) (Q : Exit → St → Prop) (T : List Nat) (H : List AO) (pl : List PS) : Exit → St → Prop := fun e s => e = .normal ∧ HL E N ops τ Q pl ⟨s.sl, rsl T 0 H s.objs⟩
theorem hq_back {T : List Nat} {H1 : List AO} (h : HL E N ops τ Q pl ⟨sl, rsl T 0 H H1⟩) : HQ E N ops τ Q T H pl .normal ⟨sl, H1⟩ := ⟨rfl, h⟩

/-- What changes something: it is walked with no objects but those that it may change. -/
theorem hw_s {op : Op} {ty : TypeId} {pos : String} {after : Array Edge} {d : Option Nat} (hq : p.q = false) (h : AL (E.at H.length) N ops (HQ E N ops τ Q (tau τ p.i) H pl) [⟨d, op, ty, pos, after, none⟩] ⟨sl, mkl (tau τ p.i) 0 H⟩) :
    HW E N ops τ Q p pl d op ty pos after ⟨sl, H⟩ := by
  intro g hg hi hns L hL hp I ν a w hs w0 I0 ν0 o0 hf
  refine hl_one hL hns hp hq hi hs hf ?_
  have hm : HR E I ν (mkl (tau τ p.i) 0 H) w := hs.hr.less (mkl_len _ _ _) fun id o h => (mkl_get _ H 0 id o h).imp (fun e => e) (fun e => e.2)
  have := h I ν a w ⟨HR.env (E := E) (F := E.at H.length) rfl rfl hm, hs.sl, hs.df, hs.nt⟩ w I ν _ (FR.refl _ _ _ _)
  unfold wpList at this
  rw [if_pos (by simp [Region.wanted])] at this
  refine wpOp_do hi (hg I ν a w hs) ?_
  rcases this with this | ⟨_, a', w', σ', _, _, ⟨e, _⟩, _⟩
  · refine wp_monoQ (fun e a' w' he ⟨σ', I', ν', ⟨h1, _⟩, _⟩ => absurd h1 he) (Oper.wp_mono (fun a' w' hk => ?_) this)
    obtain ⟨σ', I', ν', ⟨_, h2⟩, hs2, hf2⟩ := hk
    obtain ⟨u1, u2, u3, u4⟩ := unmask (E := E) (tau τ p.i) hs.hr hs2.hr hf2
    exact ⟨⟨σ'.sl, rsl (tau τ p.i) 0 H σ'.objs⟩, I', ν', h2, ⟨u1, hs2.sl, hs2.df, hs2.nt⟩, u2, u4⟩
  · cases e
theorem k_hw {d : Option Nat} {op : Op} {ty : TypeId} {pos : String} {after : Array Edge} {σ : St} (h : HW E N ops τ Q p pl d op ty pos after σ) : HW E N ops τ Q p pl d op ty pos after σ := h
theorem k_ho {o : Oper} {σ : St} (h : HO E N ops τ Q p pl o σ) : HO E N ops τ Q p pl o σ := h
end
end Go.Proofs.YtnjolbnbpfjdiaaDoor.L

namespace Go.Proofs.YtnjolbnbpfjdiaaDoor.L
open Go Go.RowKit
set_option linter.unusedVariables false
set_option linter.unusedSimpArgs false

section
variable {E : Env} {N : Nat} {sl : Slots} {H : List AO}
end
end Go.Proofs.YtnjolbnbpfjdiaaDoor.L

namespace Go.Proofs.YtnjolbnbpfjdiaaDoor.L
open Go Go.RowKit
set_option linter.unusedVariables false
set_option linter.unusedSimpArgs false

section
variable {E : Env} {I : Imm} {ν : Nu} {w w' : World} {H : List AO}
end

section
variable {E : Env} {N : Nat} {ops : Array Oper} {Q : Exit → St → Prop} {rest : List Oper} {sl : Slots} {H H' : List AO}
end
end Go.Proofs.YtnjolbnbpfjdiaaDoor.L

namespace Go.Proofs.YtnjolbnbpfjdiaaDoor.L
open Go Go.RowKit
set_option linter.unusedVariables false
set_option linter.unusedSimpArgs false

/-- What never changes behind a call: what did not before it, and the blocks that it has made. -/
def immNew (w w' : World) (I : Imm) : Imm := fun b o => I b o ∨ (w.heap.size ≤ b ∧ ∃ v, w'.cell? ⟨b, o, none⟩ = some v)
theorem immLe_below {E : Env} {I : Imm} {ν : Nu} {H : List AO} {w w' : World} (hh : HR E I ν H w) (hb : Below w.heap.size w w') : ImmLe w I w' (immNew w w' I) :=
  ⟨fun b o h => .inl h, fun b o h => (hh.later hb).2.2.2 b o h⟩

/-- A call that changes nothing and hands back something that never changes. -/
theorem pcalls_real {E : Env} {f : Nat} {args : List AV} {R : AV → Prop} (h : ∀ I ν w (vs : List Value), HR E I ν [] w → args.length = vs.length → (∀ (j : Nat) x v, args[j]? = some x → vs[j]? = some v → VR w I ν x v) →
      Calls E.P f vs.toArray w fun e w' => ∃ rv v, R rv ∧ clB 0 rv = true ∧ e = .returned v ∧ Below w.heap.size w w' ∧ VR w' (immNew w w' I) ν rv v) : PCalls E f args R := by
  intro I ν w vs hh hl hv
  refine (h I ν w vs hh hl hv).mono ?_
  rintro e w' ⟨rv, v, hR, hc, rfl, hb, hvr⟩
  have hI := immLe_below hh hb
  refine ⟨rv, [], immNew w w' I, ν, v, ⟨hR, hc⟩, rfl, hvr, ⟨hh.n, hh.below.trans (hb.mono hh.base), Nat.le_trans hh.base hb.size, fun b o hi => ?_, fun id o h => by simp at h, fun id id' o o' b h => by simp at h⟩,
    ⟨hI, hb.size, fun b o hi => ?_, fun b hk _ => hb.block b hk, fun b ⟨id, o, h, _⟩ => by simp at h, fun id hk _ => by simp at hk, fun id hk _ => by simp at hk⟩⟩
  · rcases hi with hi | ⟨_, hi⟩
    · obtain ⟨u, hu⟩ := hh.imm b o hi
      exact ⟨u, (hI.2 b o hi).trans hu⟩
    · exact hi
  · rcases hi with hi | ⟨hi, _⟩
    · exact .inl hi
    · exact .inr (.inr hi)

/-- A call of which nothing but its plain answer is left. -/
theorem pcalls_plain {E : Env} {f : Nat} {args : List AV} {c : AV} (hc : clB 0 c = true) (h : ∀ I ν w (vs : List Value), HR E I ν [] w → args.length = vs.length → (∀ (j : Nat) x v, args[j]? = some x → vs[j]? = some v → VR w I ν x v) →
      ∃ u, (∀ w I, VR w I ν c u) ∧ Calls E.P f vs.toArray w fun e w' => e = .returned u ∧ Below w.heap.size w w') : PCalls E f args fun rv => rv = c := by
  refine pcalls_real fun I ν w vs hh hl hv => ?_
  obtain ⟨u, h1, h2⟩ := h I ν w vs hh hl hv
  exact h2.mono fun e w' ⟨he, hb⟩ => ⟨c, u, rfl, hc, he, hb, h1 _ _⟩

/-- What a frame says of no object's own versions it says of all of them, where they haven't turned. -/
theorem FR.same {k k' : Nat} {w w' : World} {I I' : Imm} {ν : Nu} {objs objs' : List AO} (h : FR k w I ν objs w' I' ν objs') (hg : ∀ id, id < k' → objs[id]? = some .gone → objs'[id]? = some .gone) : FR k' w I ν objs w' I' ν objs' :=
  ⟨h.imm, h.size, h.new, h.keep, h.foot, (Nu.le.refl ν).ag _, fun id hk h1 => ⟨rfl, hg id hk h1⟩⟩

/-- Rows of one cell each. -/
def row1 (enc : AV) : List AV := [enc]
end Go.Proofs.YtnjolbnbpfjdiaaDoor.L

namespace Go.Proofs.YtnjolbnbpfjdiaaDoor.L
open Go Go.RowKit
set_option linter.unusedVariables false
set_option linter.unusedSimpArgs false

abbrev bytesAV (l : List UInt8) : List (List AV) := l.map fun b => [.int .u8 (b.toNat : Int)]
def isPtr : AV → Bool
  | .op _ _ => true
  | .rp _ => true
  | .er _ _ _ _ _ => true
  | _ => false
theorem VR.ptr {w : World} {I : Imm} {ν : Nu} {x : AV} {v : Value} (h : VR w I ν x v) (hp : isPtr x = true) : ∃ a : Addr, v = .pointer (some a) := by
  cases h with
  | op id off b hi h => exact ⟨_, rfl⟩
  | er id ver sz i off g n c hi hv h => exact ⟨_, rfl⟩
  | pure h => cases h <;> first | exact ⟨_, rfl⟩ | simp [isPtr] at hp
  | _ => simp [isPtr] at hp

section
variable {E : Env} {N : Nat} {ops : Array Oper} {Q : Exit → St → Prop} {rest : List Oper} {sl : Slots} {H H' : List AO}
theorem VR.nilp_inv {w : World} {I : Imm} {ν : Nu} {v : Value} (h : VR w I ν .nilp v) : v = .pointer none := by
  cases h with
  | pure h => cases h; rfl
theorem ov_peq_nn {t t' e : Nat} {n b : Nat} {z : Value} [ti : TI E.P t (.pointer e) n b z] {x y : Operand} (hx : ev sl x = some .nilp) (hy : ev sl y = some .nilp) : OV E sl H (.binOp .eql t x y t') (.bool true) := by
  intro I ν a w hh hs
  have e1 := (ev_ok hs hx).nilp_inv
  have e2 := (ev_ok hs hy).nilp_inv
  refine ⟨_, .pure (.bool true), fun o w' ho _ => ?_⟩
  have h : ∀ d : Nat, (Op.equalIn (d + 1) t (.pointer none) (.pointer none)).run E.P w' = .ok true w' := fun d => by simp [Op.equalIn, run_underlying ti.u]
  simp [execOp, ho, e1, e2, eqGuard, binOp, Op.equal, Op.maxDepth, h 9999]
theorem ov_peq_pn {t t' e : Nat} {n b : Nat} {z : Value} [ti : TI E.P t (.pointer e) n b z] {x y : Operand} {pv : AV} (hx : ev sl x = some pv) (hp : isPtr pv = true) (hy : ev sl y = some .nilp) : OV E sl H (.binOp .eql t x y t') (.bool false) := by
  intro I ν a w hh hs
  obtain ⟨p, e1⟩ := (ev_ok hs hx).ptr hp
  have e2 := (ev_ok hs hy).nilp_inv
  refine ⟨_, .pure (.bool false), fun o w' ho _ => ?_⟩
  have h : ∀ d : Nat, (Op.equalIn (d + 1) t (.pointer (some p)) (.pointer none)).run E.P w' = .ok false w' := fun d => by simp [Op.equalIn, run_underlying ti.u]
  simp [execOp, ho, e1, e2, eqGuard, binOp, Op.equal, Op.maxDepth, h 9999]
theorem ov_pne_same {t t' e : Nat} {n b n' b' : Nat} {z z' : Value} {dd : Bool} [ti : TI E.P t (.pointer e) n b z] [te : TZ E.P e dd n' b' z'] {x y : Operand} {id off : Nat} (hx : ev sl x = some (.op id off)) (hy : ev sl y = some (.op id off)) : OV E sl H (.binOp .neq t x y t') (.bool false) := by
  intro I ν a w hh hs
  have e1 := ev_ok hs hx
  have e2 := ev_ok hs hy
  obtain ⟨v1, h1⟩ : ∃ v, a.eval x = v := ⟨_, rfl⟩
  obtain ⟨v2, h2⟩ : ∃ v, a.eval y = v := ⟨_, rfl⟩
  rw [h1] at e1
  rw [h2] at e2
  obtain ⟨j, hj, _⟩ := te.bytes
  cases e1 with
  | pure h => cases h
  | op _ _ b1 hi1 hb1 =>
    cases e2 with
    | pure h => cases h
    | op _ _ b2 hi2 hb2 =>
      rw [hb1] at hb2
      injection hb2 with hb2; injection hb2 with hb2; injection hb2 with hb2
      subst hb2
      refine ⟨_, .pure (.bool false), fun o w' ho _ => ?_⟩
      have := Lib.run_neq_ptr_same (P := E.P) (w := w') (tp := t) ⟨b1, off, none⟩ ti.u hj
      simp [execOp, ho, h1, h2, eqGuard, this]

theorem box_shape {I : Imm} {ν : Nu} {w : World} (hh : HR E I ν H w) {id T : Nat} {cells : List AV} (hH : H[id]? = some (.box cells (some T))) {off : Nat} {v : Value} (hv : VR w I ν (.op id off) v) : ∃ b, v = .pointer (some ⟨b, off, none⟩) ∧ ∀ w', Still ν H I w w' → w'.shape? b = some (T, cells.length) := by
  cases hv with
  | pure h => cases h
  | op _ _ b hi hb =>
    cases hh.obj id _ hH with
    | box _ _ b' vs ty hv' hbase hheap hl hx hI hty =>
      rw [hb] at hv'
      injection hv' with e; injection e with e; injection e with e
      subst e
      have hT := hty T rfl
      subst hT
      refine ⟨b, rfl, fun w' hw => ?_⟩
      have := (hw.obj id _ b hH (by simp only [OB, hb])).trans hheap
      simp [World.shape?, this, hl]
theorem ov_conv_to {src dst t n b n' b' n2 b2 : Nat} {z z' z2 : Value} {dd : Bool} [ts : TI E.P src (.pointer t) n b z] [td : TI E.P dst .unsafePointer n' b' z'] [te : TZ E.P t dd n2 b2 z2] {x : Operand} {id off T : Nat} {cells : List AV} (hx : ev sl x = some (.op id off)) (hH : H[id]? = some (.box cells (some T))) (hn : n2 ≠ 0) (ho : off < cells.length) :
    OV E sl H (.convert src dst x) (.op id off) := by
  intro I ν a w hh hs
  obtain ⟨bk, hv, hsh⟩ := box_shape hh hH (ev_ok hs hx)
  obtain ⟨j, hj1, hj2, hj3, _⟩ := te.bytes
  refine ⟨_, ev_ok hs hx, fun o w' ho' hw => ?_⟩
  have := Lib.run_to_unsafe (P := E.P) (w := w') (src := src) (dst := dst) ⟨bk, off, none⟩ ts.u td.u hj1 (by omega) (hsh w' hw) ho
  simp [execOp, ho', hv, this]
theorem ov_conv_from {src dst u n b n' b' n2 b2 : Nat} {z z' z2 : Value} {dd : Bool} [ts : TI E.P src .unsafePointer n b z] [td : TI E.P dst (.pointer u) n' b' z'] [te : TZ E.P u dd n2 b2 z2] {x : Operand} {id off T : Nat} {cells : List AV} (hx : ev sl x = some (.op id off)) (hH : H[id]? = some (.box cells (some T))) (hl : liesAt E.P E.P.depth T (cells.length / E.P.cellsOf T) off u 1 = true) :
    OV E sl H (.convert src dst x) (.op id off) := by
  intro I ν a w hh hs
  obtain ⟨bk, hv, hsh⟩ := box_shape hh hH (ev_ok hs hx)
  obtain ⟨j, hj1, _⟩ := te.bytes
  refine ⟨_, ev_ok hs hx, fun o w' ho' hw => ?_⟩
  have := Lib.run_from_unsafe (P := E.P) (w := w') (src := src) (dst := dst) ⟨bk, off, none⟩ ts.u td.u hj1 (hsh w' hw) hl
  simp [execOp, ho', hv, this]
/-- A function of the model's own that hands back what it was given. -/
theorem ov_same {g : Nat} (hf : ∀ x w, (callFunc g #[x]).run E.P w = .ok (.value x) w) {x : Operand} {xv : AV} (hx : ev sl x = some xv) {tys : Array TypeId} : OV E sl H (.call { callee := .value (.func g), args := #[x], argTypes := tys }) xv := by
  intro I ν a w hh hs
  refine ⟨_, ev_ok hs hx, fun o w' ho _ => ?_⟩
  have e1 : a.eval (.func g) = .func (.func g) #[] #[] := rfl
  simp [execOp, ho, resolve, e1, Deferred.ofValue, invoke, hf]

/-! ### bytes and texts -/
theorem bytes_get {l : List UInt8} {i : Nat} {row : List AV} (h : (bytesAV l)[i]? = some row) : ∃ b, l[i]? = some b ∧ row = [.int .u8 (b.toNat : Int)] := by
  rw [List.getElem?_map] at h
  obtain ⟨z, h1, h2⟩ := Option.map_eq_some_iff.1 h
  exact ⟨z, h1, h2.symm⟩
theorem rowRel_bytes {w : World} {I : Imm} {l : List UInt8} : RowRel w I 1 (bytesAV l) (l.map fun b => Value.int .u8 (b.toNat : Int)) := by
  refine ⟨by simp, fun i c hc => ?_⟩
  obtain ⟨z, h1, rfl⟩ := bytes_get hc
  refine ⟨rfl, fun j x hj => ?_⟩
  cases j with
  | zero =>
    simp at hj
    subst hj
    exact ⟨_, by simp [h1], .int .u8 _⟩
  | succ j => simp at hj
theorem bytes_rowRel {w : World} {I : Imm} {l : List UInt8} {inner : List Value} (h : RowRel w I 1 (bytesAV l) inner) : inner = l.map fun b => Value.int .u8 (b.toNat : Int) := by
  refine List.ext_getElem? fun i => ?_
  rw [List.getElem?_map]
  rcases Nat.lt_or_ge i l.length with hi | hi
  · obtain ⟨u, h1, h2⟩ := (h.2 i [.int .u8 (l[i].toNat : Int)] (by simp [hi])).2 0 _ rfl
    rw [Nat.mul_one, Nat.add_zero] at h1
    rw [h1, List.getElem?_eq_getElem hi]
    cases h2
    rfl
  · rw [List.getElem?_eq_none (by rw [h.1]; simpa using hi), List.getElem?_eq_none hi]
    rfl

/-- Is this object a list of bytes? -/
inductive IsBytes (l : List UInt8) (ver : Nat) : AO → Prop where
  | row (e fz : Nat) : IsBytes l ver (.row e 1 ver fz (bytesAV l))
  | arr (e : Nat) (wr : Bool) : IsBytes l ver (.arr e 1 ver (bytesAV l) wr)
/-- Where a list of bytes of the call's own lies. -/
theorem bytes_obj {I : Imm} {ν : Nu} {w : World} (hh : HR E I ν H w) {id ver : Nat} {l : List UInt8} {o : AO} (hH : H[id]? = some o) (hb : IsBytes l ver o) {v : Value} (hv : VR w I ν (.os id ver) v) :
    v = ν.val id ver ∧ ((v = .slice none 0 0 ∧ l = []) ∨ ∃ g c cur e fr, v = .slice (some ⟨g, 0, none⟩) l.length c ∧ l.length ≤ c ∧ OB ν id o = some g ∧ w.heap[g]? = some (.cells cur e fr) ∧ l.length ≤ cur.size ∧ cur.toList.take l.length = l.map fun b => Value.int .u8 (b.toNat : Int)) := by
  cases hv with
  | pure h => cases h
  | os _ _ A n c hi hver hs =>
  refine ⟨hs.symm, ?_⟩
  cases hb with
  | row e fz =>
    cases hh.obj id _ hH with
    | row _ _ _ _ _ inner ht h0 ho hr hf hI =>
      have hin := bytes_rowRel hr
      subst hin
      rw [hs] at ho
      have hbl : (bytesAV l).length = l.length := List.length_map _
      rcases ho.2 with ⟨h1, h2⟩ | ⟨g, cap, cur, h1, h2, h3, h4, h5, h6, h7⟩
      · exact .inl ⟨h1, List.eq_nil_of_length_eq_zero (by omega)⟩
      · rw [Nat.mul_one] at h6 h7
        refine .inr ⟨g, cap, cur, e, _, by rw [h1, hbl], by omega, by simp only [OB, hs, h1, Value.ownBlock], h3, by omega, by rw [← hbl]; exact h7⟩
  | arr e wr =>
    cases hh.obj id _ hH with
    | arr _ _ _ _ _ g c' cur fr ht h0 hv hb hheap hfr hl hcc hr hI =>
      have hin := bytes_rowRel hr
      have hbl : (bytesAV l).length = l.length := List.length_map _
      rw [Nat.mul_one, hbl] at hin hl
      rw [hs] at hv
      exact .inr ⟨g, c', cur, e, fr, by rw [hv, hbl], by omega, by simp only [OB, hs, hv, Value.ownBlock], hheap, hl, hin⟩

theorem bytes_cell {w : World} {g : Nat} {cur : Array Value} {e : TypeId} {fr : Nat × Nat} {l : List UInt8} (h : w.heap[g]? = some (.cells cur e fr)) (ht : cur.toList.take l.length = l.map fun b => Value.int .u8 (b.toNat : Int)) {j : Nat} {x : UInt8} (hj : l[j]? = some x) : w.cell? ((⟨g, 0, none⟩ : Addr).add j) = some (.int .u8 (x.toNat : Int)) := by
  rw [add_none]
  have h1 : (cur.toList.take l.length)[j]? = some (.int .u8 (x.toNat : Int)) := by rw [ht]; simp [hj]
  rw [List.getElem?_take] at h1
  split at h1
  · simp only [World.cell?, h, Nat.zero_add]
    simpa using h1
  · cases h1

/-- string(b), of bytes of the call's own. -/
theorem ov_conv_bytes {src dst e n b n' b' n2 b2 : Nat} {z z' z2 : Value} [ts : TI E.P src (.slice e) n b z] [td : TI E.P dst .string n' b' z'] [te : TI E.P e (.int .u8) n2 b2 z2] {x : Operand} {id ver : Nat} {l : List UInt8} {o : AO} (hx : ev sl x = some (.os id ver)) (hH : H[id]? = some o) (hb : IsBytes l ver o) :
    OV E sl H (.convert src dst x) (.str l) := by
  intro I ν a w hh hs
  obtain ⟨_, hv⟩ := bytes_obj hh hH hb (ev_ok hs hx)
  refine ⟨_, .pure (.str l), fun o' w' ho hw => ?_⟩
  rcases hv with ⟨hv, rfl⟩ | ⟨g, c, cur, e', fr, hv, hlc, hob, hheap, hl, ht⟩
  · have := run_convert_bytes_string (P := E.P) w' src dst e none 0 0 ts.u te.u td.u
    simp [execOp, ho, hv, this, Conv.bytesToString]
    rfl
  · have hheap' := (hw.obj id _ g hH hob).trans hheap
    have := run_convert_bytes_back (P := E.P) w' src dst e ⟨g, 0, none⟩ c l ts.u te.u td.u (fun j hj => bytes_cell hheap' ht (List.getElem?_eq_getElem hj))
    simp [execOp, ho, hv, this]

end
end Go.Proofs.YtnjolbnbpfjdiaaDoor.L

namespace Go.Proofs.YtnjolbnbpfjdiaaDoor.L
open Go Go.RowKit
set_option linter.unusedVariables false
set_option linter.unusedSimpArgs false

section
variable {E : Env} {N : Nat} {ops : Array Oper} {Q : Exit → St → Prop} {rest : List Oper} {sl : Slots} {H H' : List AO}
theorem arr_inv {I : Imm} {ν : Nu} {w : World} (hh : HR E I ν H w) {id ver sz e : Nat} {wr : Bool} {xs : List (List AV)} (hH : H[id]? = some (.arr e sz ver xs wr)) {v : Value} (hv : VR w I ν (.os id ver) v) :
    ∃ g c, v = .slice (some ⟨g, 0, none⟩) xs.length c ∧ ν.val id ver = v ∧ id < ν.n ∧ ver ≤ ν.top id := by
  cases hv with
  | pure h => cases h
  | os _ _ A n c hi hver hs =>
    cases hh.obj id _ hH with
    | arr _ _ _ _ _ g c' cur fr ht h0 hv hb hheap hfr hl hcc hr hI =>
      rw [hs] at hv
      exact ⟨g, c', hv, hs, hi, hver⟩
theorem ov_len_arr {t e : Nat} {n b : Nat} {z : Value} [ti : TI E.P t (.slice e) n b z] {x : Operand} {id ver ver' sz e' : Nat} {wr : Bool} {xs : List (List AV)} (hx : ev sl x = some (.os id ver)) (hH : H[id]? = some (.arr e' sz ver' xs wr)) (hver : ver = ver') :
    OV E sl H (.call { callee := .builtin .len, args := #[x], argTypes := #[t] }) (.int .i64 (xs.length : Int)) := by
  intro I ν a w hh hs
  subst hver
  obtain ⟨g, c, hv, hval, hid, hle⟩ := arr_inv hh hH (ev_ok hs hx)
  refine ⟨_, .pure (.int .i64 _), fun o w' ho hb => ?_⟩
  simp [execOp, ho, hv, resolve, invoke, builtin, Builtin.len_, ti.und, goInt]

/-! ### unsafe.SliceData, unsafe.String -/
theorem VR.os_id {w : World} {I : Imm} {ν : Nu} {id ver : Nat} {v : Value} (h : VR w I ν (.os id ver) v) : id < ν.n ∧ ver ≤ ν.top id := by
  cases h with
  | pure h => cases h
  | os _ _ A n c hi hver hs => exact ⟨hi, hver⟩
theorem ov_usd {x : Operand} {id ver : Nat} {l : List UInt8} {o : AO} {tys : Array TypeId} (hx : ev sl x = some (.os id ver)) (hH : H[id]? = some o) (hb : IsBytes l ver o) (hne : l ≠ []) :
    OV E sl H (.call { callee := .builtin .unsafeSliceData, args := #[x], argTypes := tys }) (.er id ver 1 0 0) := by
  intro I ν a w hh hs
  have hos := ev_ok hs hx
  obtain ⟨hval, hv⟩ := bytes_obj hh hH hb hos
  rcases hv with ⟨_, e⟩ | ⟨g, c, cur, e', fr, hv, hlc, hob, hheap, hl, ht⟩
  · exact absurd e hne
  have hlp : 0 < l.length := List.length_pos_iff.2 hne
  obtain ⟨hid, hle⟩ := hos.os_id
  refine ⟨.pointer (some ⟨g, 0 * 1 + 0, none⟩), .er id ver 1 0 0 g l.length c hid hle (by rw [← hval, hv]), fun o' w' ho hw => ?_⟩
  have := Lib.run_unsafeSliceData_row (P := E.P) (w := w') tys o'.type ⟨g, 0, none⟩ l.length c (by omega)
  simp [execOp, ho, hv, resolve, invoke, builtin, this]
/-- Of no byte: some pointer or none. -/
theorem usd0_run {I : Imm} {ν : Nu} {a : Act} {w : World} {x : Operand} {id ver e : Nat} {n b : Nat} {z : Value} {o : AO} {tys : Array TypeId} {ty : TypeId} [ti : TI E.P ty (.pointer e) n b z] (hh : HR E I ν H w) (hs : SlR w I ν sl a) (hx : ev sl x = some (.os id ver)) (hH : H[id]? = some o) (hb : IsBytes [] ver o) (d : Option Nat) (pos : String) (after : Array Edge) (g : Option (Nat × Bool)) :
    ∃ w' q, (execOp a.eval ⟨d, .call { callee := .builtin .unsafeSliceData, args := #[x], argTypes := tys }, ty, pos, after, g⟩).run E.P w = .ok (.value (.pointer q)) w' ∧ Below w.heap.size w w' ∧ ∀ A, q = some A → ∃ g, A = ⟨g, 0, none⟩ := by
  obtain ⟨hval, hv⟩ := bytes_obj hh hH hb (ev_ok hs hx)
  rcases hv with ⟨hv, _⟩ | ⟨g, c, cur, e', fr, hv, hlc, hob, hheap, hl, ht⟩
  · have := Lib.run_unsafeSliceData_nil (P := E.P) (w := w) tys ty 0 0
    exact ⟨w, none, by simp [execOp, hv, resolve, invoke, builtin, this], Below.refl _ _, fun A h => by cases h⟩
  · by_cases hc : c = 0
    · subst hc
      have := Lib.run_unsafeSliceData_zero (P := E.P) (w := w) tys ty e ti.u ⟨g, 0, none⟩ 0 (e', cur.size) (by simp [World.shape?, hheap])
      exact ⟨w.alloc (.view ⟨g, 0, none⟩ e), some ⟨w.heap.size, 0, none⟩, by simp [execOp, hv, resolve, invoke, builtin, this], Below.alloc (Below.refl _ _) (Nat.le_refl _) _, fun A h => ⟨_, by injection h with h; exact h.symm⟩⟩
    · have := Lib.run_unsafeSliceData_row (P := E.P) (w := w) tys ty ⟨g, 0, none⟩ 0 c hc
      exact ⟨w, some ⟨g, 0, none⟩, by simp [execOp, hv, resolve, invoke, builtin, this], Below.refl _ _, fun A h => ⟨_, by injection h with h; exact h.symm⟩⟩
/-- What such a pointer is taken for. -/
theorem usd0_push {I : Imm} {ν : Nu} {w w' : World} {q : Option Addr} (hh : HR E I ν H w) (hb : Below w.heap.size w w') (hq : ∀ A, q = some A → ∃ g, A = ⟨g, 0, none⟩) : ∃ ν' pv, (isPtr pv = true ∨ pv = .nilp) ∧ HR E I ν' (H ++ [AO.gone]) w' ∧ FR E.k w I ν H w' I ν' (H ++ [AO.gone]) ∧ ν.le ν' ∧ VR w' I ν' pv (.pointer q) := by
  have hp := hh.push (o := .gone) (t := 0) (f := fun _ => .pointer q) (w' := w') (hh.below.trans (hb.mono hh.base)) hb.size (fun k hk => hb.block k hk) .gone (fun b h => by simp [OB] at h)
  cases q with
  | none => exact ⟨_, .nilp, .inr rfl, hp.1, hp.2.1, ν.add_le _ _, .pure .nilp⟩
  | some A =>
    obtain ⟨g, rfl⟩ := hq A rfl
    exact ⟨_, .op H.length 0, .inl rfl, hp.1, hp.2.1, ν.add_le _ _, .op _ 0 g (by simp [Nu.add, hh.n]) (by simp [Nu.add, hh.n])⟩
theorem hw_usd0 {τ : List (Nat × List Nat)} {p : PS} {pl : List PS} {x : Operand} {id ver e : Nat} {n b : Nat} {z : Value} {o : AO} {tys : Array TypeId} {ty : TypeId} [ti : TI E.P ty (.pointer e) n b z] {pos : String} {after : Array Edge} {d : Nat} (hx : ev sl x = some (.os id ver)) (hH : H[id]? = some o) (hb : IsBytes [] ver o) (hS : Snoc H .gone H') (hd : Nat.blt d N = true) (hq : p.q = false)
    (h : ∀ pv, isPtr pv = true ∨ pv = .nilp → HL E N ops τ Q pl ⟨(d, pv) :: sl, H'⟩) : HW E N ops τ Q p pl (some d) (.call { callee := .builtin .unsafeSliceData, args := #[x], argTypes := tys }) ty pos after ⟨sl, H⟩ := by
  rw [hS.eq] at h
  intro g hg hi hns L hL hp I ν a w hs w0 I0 ν0 o0 hf
  refine hl_one hL hns hp hq hi hs hf ?_
  obtain ⟨w', q, hrun, hbel, hqq⟩ := usd0_run (tys := tys) (ty := ty) hs.hr hs.sl hx hH hb (some d) pos after g
  obtain ⟨ν', pv, hpv, p1, p2, p3, p4⟩ := usd0_push hs.hr hbel hqq
  refine wpOp_do hi (hg I ν a w hs) ?_
  unfold Oper.wp
  rw [hrun]
  refine ⟨⟨(d, pv) :: sl, H ++ [AO.gone]⟩, I, ν', h pv hpv, ⟨p1, (hs.sl.mono p2.imm p3).put d p4 (by rw [hs.nt]; simpa [Nat.blt_eq] using hd), hs.df, by simp [Act.put, hs.nt]⟩, p2, fun id o b h1 _ h2 => ⟨hbel.block b (OB_lt (hs.hr.obj id o h1) h2).1, ?_, ?_⟩⟩
  · exact (List.getElem?_append_left (List.getElem?_eq_some_iff.1 h1).1).trans h1
  · exact (OB_same (hs.hr.obj id o h1) p3 (hs.hr.idlt h1)).trans h2
theorem ov_ustr0 {p n : Operand} {pv : AV} {pt it : Nat} (hp : ev sl p = some pv) (hpp : isPtr pv = true ∨ pv = .nilp) (hn : ev sl n = some (.int .i64 0)) :
    OV E sl H (.call { callee := .builtin .unsafeString, args := #[p, n], argTypes := #[pt, it] }) (.str []) := by
  intro I ν a w hh hs
  have e2 := (ev_ok hs hn).int_inv
  obtain ⟨q, e1⟩ : ∃ q, a.eval p = .pointer q := by
    rcases hpp with h | rfl
    · obtain ⟨A, hA⟩ := (ev_ok hs hp).ptr h
      exact ⟨_, hA⟩
    · exact ⟨_, (ev_ok hs hp).nilp_inv⟩
  refine ⟨_, .pure (.str []), fun o w' ho hw => ?_⟩
  have := Lib.run_unsafeString_none (P := E.P) (w := w') pt it o.type q
  simp [execOp, ho, e1, e2, resolve, invoke, builtin, this]
  rfl

/-- Which array is left of a list of bytes that a text shares. -/
inductive Shares (l : List UInt8) (ver : Nat) : AO → AO → Prop where
  | row (e : Nat) : Shares l ver (.row e 1 ver 0 (bytesAV l)) (.arr e 1 ver (bytesAV l) false)
  | arr (e : Nat) (wr : Bool) : Shares l ver (.arr e 1 ver (bytesAV l) wr) (.arr e 1 ver (bytesAV l) false)
end
end Go.Proofs.YtnjolbnbpfjdiaaDoor.L
