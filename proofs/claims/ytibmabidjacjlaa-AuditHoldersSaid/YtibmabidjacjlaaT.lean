/- What the types and functions of this translation are: facts that a program (mkT.py) has printed; the kernel checks each. -/
import Derived.Test.YtibmabidjacjlaaLm
import Derived.Test.YtibmabidjacjlaaProg
import Derived.KernelRfl
namespace Go.Proofs.Ytibmabidjacjlaa.L
open Go Go.Proofs
set_option maxRecDepth 100000
theorem iz1 : (Try.prog.info? 1).map (fun i => (i.zero, i.size, i.bytes)) = some (some .nilFunc, 1, 8) := by kernel_rfl
instance : TZ Try.prog 1 false 1 8 .nilFunc := ⟨iz1, tz_agg Try.underlying1 rfl⟩
theorem iz2 : (Try.prog.info? 2).map (fun i => (i.zero, i.size, i.bytes)) = some (some (.int .i64 0), 1, 8) := by kernel_rfl
instance : TI Try.prog 2 (.int .i64) 1 8 (.int .i64 0) := ⟨Try.underlying2, iz2⟩
instance : TZ Try.prog 2 false 1 8 (.int .i64 0) := ⟨iz2, tz_agg Try.underlying2 rfl⟩
theorem iz3 : (Try.prog.info? 3).map (fun i => (i.zero, i.size, i.bytes)) = some (some (.int .i64 0), 1, 8) := by kernel_rfl
instance : TI Try.prog 3 (.int .i64) 1 8 (.int .i64 0) := ⟨Try.underlying3, iz3⟩
instance : TZ Try.prog 3 false 1 8 (.int .i64 0) := ⟨iz3, tz_agg Try.underlying3 rfl⟩
theorem iz4 : (Try.prog.info? 4).map (fun i => (i.zero, i.size, i.bytes)) = some (some (.bool false), 1, 1) := by kernel_rfl
instance : TI Try.prog 4 .bool 1 1 (.bool false) := ⟨Try.underlying4, iz4⟩
instance : TZ Try.prog 4 false 1 1 (.bool false) := ⟨iz4, tz_agg Try.underlying4 rfl⟩
theorem iz5 : (Try.prog.info? 5).map (fun i => (i.zero, i.size, i.bytes)) = some (some (.int .u8 0), 1, 1) := by kernel_rfl
instance : TI Try.prog 5 (.int .u8) 1 1 (.int .u8 0) := ⟨Try.underlying5, iz5⟩
instance : TZ Try.prog 5 false 1 1 (.int .u8 0) := ⟨iz5, tz_agg Try.underlying5 rfl⟩
theorem iz6 : (Try.prog.info? 6).map (fun i => (i.zero, i.size, i.bytes)) = some (some (.int .u8 0), 1, 1) := by kernel_rfl
instance : TI Try.prog 6 (.int .u8) 1 1 (.int .u8 0) := ⟨Try.underlying6, iz6⟩
instance : TZ Try.prog 6 false 1 1 (.int .u8 0) := ⟨iz6, tz_agg Try.underlying6 rfl⟩
theorem iz7 : (Try.prog.info? 7).map (fun i => (i.zero, i.size, i.bytes)) = some (some (.agg #[(.int .i64 0), (.int .i64 0), (.bool false), (.int .u8 0)]), 4, 24) := by kernel_rfl
instance : TZ Try.prog 7 true 4 24 (.agg #[(.int .i64 0), (.int .i64 0), (.bool false), (.int .u8 0)]) := ⟨iz7, tz_agg Try.underlying7 rfl⟩
instance : FO Try.prog 7 0 0 1 := ⟨_, _, Try.underlying7, rfl, rfl, iz_size iz2, by decide⟩
instance : FO Try.prog 7 1 1 1 := ⟨_, _, Try.underlying7, rfl, rfl, iz_size iz3, by decide⟩
instance : FO Try.prog 7 2 2 1 := ⟨_, _, Try.underlying7, rfl, rfl, iz_size iz4, by decide⟩
instance : FO Try.prog 7 3 3 1 := ⟨_, _, Try.underlying7, rfl, rfl, iz_size iz6, by decide⟩
instance : FT Try.prog 7 [(0, 1), (1, 1), (2, 1), (3, 1)] := ⟨_, Try.underlying7, .cons (iz_size iz2) (.cons (iz_size iz3) (.cons (iz_size iz4) (.cons (iz_size iz6) (.nil))))⟩
theorem iz8 : (Try.prog.info? 8).map (fun i => (i.zero, i.size, i.bytes)) = some (some (.agg #[(.int .i64 0), (.int .i64 0), (.bool false), (.int .u8 0)]), 4, 24) := by kernel_rfl
instance : TZ Try.prog 8 true 4 24 (.agg #[(.int .i64 0), (.int .i64 0), (.bool false), (.int .u8 0)]) := ⟨iz8, tz_agg Try.underlying8 rfl⟩
instance : FO Try.prog 8 0 0 1 := ⟨_, _, Try.underlying8, rfl, rfl, iz_size iz2, by decide⟩
instance : FO Try.prog 8 1 1 1 := ⟨_, _, Try.underlying8, rfl, rfl, iz_size iz3, by decide⟩
instance : FO Try.prog 8 2 2 1 := ⟨_, _, Try.underlying8, rfl, rfl, iz_size iz4, by decide⟩
instance : FO Try.prog 8 3 3 1 := ⟨_, _, Try.underlying8, rfl, rfl, iz_size iz6, by decide⟩
instance : FT Try.prog 8 [(0, 1), (1, 1), (2, 1), (3, 1)] := ⟨_, Try.underlying8, .cons (iz_size iz2) (.cons (iz_size iz3) (.cons (iz_size iz4) (.cons (iz_size iz6) (.nil))))⟩
theorem iz9 : (Try.prog.info? 9).map (fun i => (i.zero, i.size, i.bytes)) = some (some (.string ⟨#[]⟩), 1, 16) := by kernel_rfl
instance : TI Try.prog 9 .string 1 16 (.string ⟨#[]⟩) := ⟨Try.underlying9, iz9⟩
instance : TZ Try.prog 9 false 1 16 (.string ⟨#[]⟩) := ⟨iz9, tz_agg Try.underlying9 rfl⟩
theorem iz10 : (Try.prog.info? 10).map (fun i => (i.zero, i.size, i.bytes)) = some (some (.string ⟨#[]⟩), 1, 16) := by kernel_rfl
instance : TI Try.prog 10 .string 1 16 (.string ⟨#[]⟩) := ⟨Try.underlying10, iz10⟩
instance : TZ Try.prog 10 false 1 16 (.string ⟨#[]⟩) := ⟨iz10, tz_agg Try.underlying10 rfl⟩
theorem iz11 : (Try.prog.info? 11).map (fun i => (i.zero, i.size, i.bytes)) = some (some (.string ⟨#[]⟩), 1, 16) := by kernel_rfl
instance : TI Try.prog 11 .string 1 16 (.string ⟨#[]⟩) := ⟨Try.underlying11, iz11⟩
instance : TZ Try.prog 11 false 1 16 (.string ⟨#[]⟩) := ⟨iz11, tz_agg Try.underlying11 rfl⟩
theorem iz12 : (Try.prog.info? 12).map (fun i => (i.zero, i.size, i.bytes)) = some (some (.int .u64 0), 1, 8) := by kernel_rfl
instance : TI Try.prog 12 (.int .u64) 1 8 (.int .u64 0) := ⟨Try.underlying12, iz12⟩
instance : TZ Try.prog 12 false 1 8 (.int .u64 0) := ⟨iz12, tz_agg Try.underlying12 rfl⟩
theorem iz13 : (Try.prog.info? 13).map (fun i => (i.zero, i.size, i.bytes)) = some (some (.agg #[(.string ⟨#[]⟩), (.int .u64 0)]), 2, 24) := by kernel_rfl
instance : TZ Try.prog 13 true 2 24 (.agg #[(.string ⟨#[]⟩), (.int .u64 0)]) := ⟨iz13, tz_agg Try.underlying13 rfl⟩
instance : FO Try.prog 13 0 0 1 := ⟨_, _, Try.underlying13, rfl, rfl, iz_size iz9, by decide⟩
instance : FO Try.prog 13 1 1 1 := ⟨_, _, Try.underlying13, rfl, rfl, iz_size iz12, by decide⟩
instance : FT Try.prog 13 [(0, 1), (1, 1)] := ⟨_, Try.underlying13, .cons (iz_size iz9) (.cons (iz_size iz12) (.nil))⟩
theorem iz14 : (Try.prog.info? 14).map (fun i => (i.zero, i.size, i.bytes)) = some (some (.agg #[(.string ⟨#[]⟩), (.int .u64 0)]), 2, 24) := by kernel_rfl
instance : TZ Try.prog 14 true 2 24 (.agg #[(.string ⟨#[]⟩), (.int .u64 0)]) := ⟨iz14, tz_agg Try.underlying14 rfl⟩
instance : FO Try.prog 14 0 0 1 := ⟨_, _, Try.underlying14, rfl, rfl, iz_size iz9, by decide⟩
instance : FO Try.prog 14 1 1 1 := ⟨_, _, Try.underlying14, rfl, rfl, iz_size iz12, by decide⟩
instance : FT Try.prog 14 [(0, 1), (1, 1)] := ⟨_, Try.underlying14, .cons (iz_size iz9) (.cons (iz_size iz12) (.nil))⟩
theorem iz15 : (Try.prog.info? 15).map (fun i => (i.zero, i.size, i.bytes)) = some (some (.pointer none), 1, 8) := by kernel_rfl
instance : TI Try.prog 15 (.pointer 119) 1 8 (.pointer none) := ⟨Try.underlying15, iz15⟩
instance : TZ Try.prog 15 false 1 8 (.pointer none) := ⟨iz15, tz_agg Try.underlying15 rfl⟩
theorem iz16 : (Try.prog.info? 16).map (fun i => (i.zero, i.size, i.bytes)) = some (some (.pointer none), 1, 8) := by kernel_rfl
instance : TI Try.prog 16 (.pointer 122) 1 8 (.pointer none) := ⟨Try.underlying16, iz16⟩
instance : TZ Try.prog 16 false 1 8 (.pointer none) := ⟨iz16, tz_agg Try.underlying16 rfl⟩
theorem iz17 : (Try.prog.info? 17).map (fun i => (i.zero, i.size, i.bytes)) = some (some (.pointer none), 1, 8) := by kernel_rfl
instance : TI Try.prog 17 (.pointer 131) 1 8 (.pointer none) := ⟨Try.underlying17, iz17⟩
instance : TZ Try.prog 17 false 1 8 (.pointer none) := ⟨iz17, tz_agg Try.underlying17 rfl⟩
theorem iz18 : (Try.prog.info? 18).map (fun i => (i.zero, i.size, i.bytes)) = some (some (.agg #[(.pointer none)]), 1, 8) := by kernel_rfl
instance : TZ Try.prog 18 true 1 8 (.agg #[(.pointer none)]) := ⟨iz18, tz_agg Try.underlying18 rfl⟩
instance : FO Try.prog 18 0 0 1 := ⟨_, _, Try.underlying18, rfl, rfl, iz_size iz17, by decide⟩
instance : FT Try.prog 18 [(0, 1)] := ⟨_, Try.underlying18, .cons (iz_size iz17) (.nil)⟩
theorem iz19 : (Try.prog.info? 19).map (fun i => (i.zero, i.size, i.bytes)) = some (some (.agg #[(.pointer none)]), 1, 8) := by kernel_rfl
instance : TZ Try.prog 19 true 1 8 (.agg #[(.pointer none)]) := ⟨iz19, tz_agg Try.underlying19 rfl⟩
instance : FO Try.prog 19 0 0 1 := ⟨_, _, Try.underlying19, rfl, rfl, iz_size iz17, by decide⟩
instance : FT Try.prog 19 [(0, 1)] := ⟨_, Try.underlying19, .cons (iz_size iz17) (.nil)⟩
theorem iz20 : (Try.prog.info? 20).map (fun i => (i.zero, i.size, i.bytes)) = some (some .nilIface, 1, 16) := by kernel_rfl
instance : TZ Try.prog 20 false 1 16 .nilIface := ⟨iz20, tz_agg Try.underlying20 rfl⟩
theorem iz21 : (Try.prog.info? 21).map (fun i => (i.zero, i.size, i.bytes)) = some (some (.int .i32 0), 1, 4) := by kernel_rfl
instance : TI Try.prog 21 (.int .i32) 1 4 (.int .i32 0) := ⟨Try.underlying21, iz21⟩
instance : TZ Try.prog 21 false 1 4 (.int .i32 0) := ⟨iz21, tz_agg Try.underlying21 rfl⟩
theorem iz22 : (Try.prog.info? 22).map (fun i => (i.zero, i.size, i.bytes)) = some (some (.slice none 0 0), 1, 24) := by kernel_rfl
instance : TI Try.prog 22 (.slice 133) 1 24 (.slice none 0 0) := ⟨Try.underlying22, iz22⟩
instance : TZ Try.prog 22 false 1 24 (.slice none 0 0) := ⟨iz22, tz_agg Try.underlying22 rfl⟩
theorem iz23 : (Try.prog.info? 23).map (fun i => (i.zero, i.size, i.bytes)) = some (some (.slice none 0 0), 1, 24) := by kernel_rfl
instance : TI Try.prog 23 (.slice 3) 1 24 (.slice none 0 0) := ⟨Try.underlying23, iz23⟩
instance : TZ Try.prog 23 false 1 24 (.slice none 0 0) := ⟨iz23, tz_agg Try.underlying23 rfl⟩
theorem iz24 : (Try.prog.info? 24).map (fun i => (i.zero, i.size, i.bytes)) = some (some (.slice none 0 0), 1, 24) := by kernel_rfl
instance : TI Try.prog 24 (.slice 135) 1 24 (.slice none 0 0) := ⟨Try.underlying24, iz24⟩
instance : TZ Try.prog 24 false 1 24 (.slice none 0 0) := ⟨iz24, tz_agg Try.underlying24 rfl⟩
theorem iz25 : (Try.prog.info? 25).map (fun i => (i.zero, i.size, i.bytes)) = some (some (.slice none 0 0), 1, 24) := by kernel_rfl
instance : TI Try.prog 25 (.slice 140) 1 24 (.slice none 0 0) := ⟨Try.underlying25, iz25⟩
instance : TZ Try.prog 25 false 1 24 (.slice none 0 0) := ⟨iz25, tz_agg Try.underlying25 rfl⟩
theorem iz26 : (Try.prog.info? 26).map (fun i => (i.zero, i.size, i.bytes)) = some (some (.agg #[(.slice none 0 0), (.slice none 0 0), (.slice none 0 0), (.string ⟨#[]⟩), (.slice none 0 0), (.int .i64 0), (.int .i64 0), (.int .i64 0), (.int .i64 0)]), 9, 144) := by kernel_rfl
instance : TZ Try.prog 26 true 9 144 (.agg #[(.slice none 0 0), (.slice none 0 0), (.slice none 0 0), (.string ⟨#[]⟩), (.slice none 0 0), (.int .i64 0), (.int .i64 0), (.int .i64 0), (.int .i64 0)]) := ⟨iz26, tz_agg Try.underlying26 rfl⟩
instance : FO Try.prog 26 0 0 1 := ⟨_, _, Try.underlying26, rfl, rfl, iz_size iz22, by decide⟩
instance : FO Try.prog 26 1 1 1 := ⟨_, _, Try.underlying26, rfl, rfl, iz_size iz23, by decide⟩
instance : FO Try.prog 26 2 2 1 := ⟨_, _, Try.underlying26, rfl, rfl, iz_size iz24, by decide⟩
instance : FO Try.prog 26 3 3 1 := ⟨_, _, Try.underlying26, rfl, rfl, iz_size iz9, by decide⟩
instance : FO Try.prog 26 4 4 1 := ⟨_, _, Try.underlying26, rfl, rfl, iz_size iz25, by decide⟩
instance : FO Try.prog 26 5 5 1 := ⟨_, _, Try.underlying26, rfl, rfl, iz_size iz3, by decide⟩
instance : FO Try.prog 26 6 6 1 := ⟨_, _, Try.underlying26, rfl, rfl, iz_size iz3, by decide⟩
instance : FO Try.prog 26 7 7 1 := ⟨_, _, Try.underlying26, rfl, rfl, iz_size iz3, by decide⟩
instance : FO Try.prog 26 8 8 1 := ⟨_, _, Try.underlying26, rfl, rfl, iz_size iz3, by decide⟩
instance : FT Try.prog 26 [(0, 1), (1, 1), (2, 1), (3, 1), (4, 1), (5, 1), (6, 1), (7, 1), (8, 1)] := ⟨_, Try.underlying26, .cons (iz_size iz22) (.cons (iz_size iz23) (.cons (iz_size iz24) (.cons (iz_size iz9) (.cons (iz_size iz25) (.cons (iz_size iz3) (.cons (iz_size iz3) (.cons (iz_size iz3) (.cons (iz_size iz3) (.nil)))))))))⟩
theorem iz27 : (Try.prog.info? 27).map (fun i => (i.zero, i.size, i.bytes)) = some (some (.agg #[(.slice none 0 0), (.slice none 0 0), (.slice none 0 0), (.string ⟨#[]⟩), (.slice none 0 0), (.int .i64 0), (.int .i64 0), (.int .i64 0), (.int .i64 0)]), 9, 144) := by kernel_rfl
instance : TZ Try.prog 27 true 9 144 (.agg #[(.slice none 0 0), (.slice none 0 0), (.slice none 0 0), (.string ⟨#[]⟩), (.slice none 0 0), (.int .i64 0), (.int .i64 0), (.int .i64 0), (.int .i64 0)]) := ⟨iz27, tz_agg Try.underlying27 rfl⟩
instance : FO Try.prog 27 0 0 1 := ⟨_, _, Try.underlying27, rfl, rfl, iz_size iz22, by decide⟩
instance : FO Try.prog 27 1 1 1 := ⟨_, _, Try.underlying27, rfl, rfl, iz_size iz23, by decide⟩
instance : FO Try.prog 27 2 2 1 := ⟨_, _, Try.underlying27, rfl, rfl, iz_size iz24, by decide⟩
instance : FO Try.prog 27 3 3 1 := ⟨_, _, Try.underlying27, rfl, rfl, iz_size iz9, by decide⟩
instance : FO Try.prog 27 4 4 1 := ⟨_, _, Try.underlying27, rfl, rfl, iz_size iz25, by decide⟩
instance : FO Try.prog 27 5 5 1 := ⟨_, _, Try.underlying27, rfl, rfl, iz_size iz3, by decide⟩
instance : FO Try.prog 27 6 6 1 := ⟨_, _, Try.underlying27, rfl, rfl, iz_size iz3, by decide⟩
instance : FO Try.prog 27 7 7 1 := ⟨_, _, Try.underlying27, rfl, rfl, iz_size iz3, by decide⟩
instance : FO Try.prog 27 8 8 1 := ⟨_, _, Try.underlying27, rfl, rfl, iz_size iz3, by decide⟩
instance : FT Try.prog 27 [(0, 1), (1, 1), (2, 1), (3, 1), (4, 1), (5, 1), (6, 1), (7, 1), (8, 1)] := ⟨_, Try.underlying27, .cons (iz_size iz22) (.cons (iz_size iz23) (.cons (iz_size iz24) (.cons (iz_size iz9) (.cons (iz_size iz25) (.cons (iz_size iz3) (.cons (iz_size iz3) (.cons (iz_size iz3) (.cons (iz_size iz3) (.nil)))))))))⟩
theorem iz28 : (Try.prog.info? 28).map (fun i => (i.zero, i.size, i.bytes)) = some (some (.int .i64 0), 1, 8) := by kernel_rfl
instance : TI Try.prog 28 (.int .i64) 1 8 (.int .i64 0) := ⟨Try.underlying28, iz28⟩
instance : TZ Try.prog 28 false 1 8 (.int .i64 0) := ⟨iz28, tz_agg Try.underlying28 rfl⟩
theorem iz30 : (Try.prog.info? 30).map (fun i => (i.zero, i.size, i.bytes)) = some (some .nilFunc, 1, 8) := by kernel_rfl
instance : TZ Try.prog 30 false 1 8 .nilFunc := ⟨iz30, tz_agg Try.underlying30 rfl⟩
theorem iz31 : (Try.prog.info? 31).map (fun i => (i.zero, i.size, i.bytes)) = some (some (.slice none 0 0), 1, 24) := by kernel_rfl
instance : TI Try.prog 31 (.slice 69) 1 24 (.slice none 0 0) := ⟨Try.underlying31, iz31⟩
instance : TZ Try.prog 31 false 1 24 (.slice none 0 0) := ⟨iz31, tz_agg Try.underlying31 rfl⟩
theorem iz33 : (Try.prog.info? 33).map (fun i => (i.zero, i.size, i.bytes)) = some (some .nilFunc, 1, 8) := by kernel_rfl
instance : TZ Try.prog 33 false 1 8 .nilFunc := ⟨iz33, tz_agg Try.underlying33 rfl⟩
theorem iz34 : (Try.prog.info? 34).map (fun i => (i.zero, i.size, i.bytes)) = some (some .nilFunc, 1, 8) := by kernel_rfl
instance : TZ Try.prog 34 false 1 8 .nilFunc := ⟨iz34, tz_agg Try.underlying34 rfl⟩
theorem iz35 : (Try.prog.info? 35).map (fun i => (i.zero, i.size, i.bytes)) = some (some .nilFunc, 1, 8) := by kernel_rfl
instance : TZ Try.prog 35 false 1 8 .nilFunc := ⟨iz35, tz_agg Try.underlying35 rfl⟩
theorem iz36 : (Try.prog.info? 36).map (fun i => (i.zero, i.size, i.bytes)) = some (some .nilFunc, 1, 8) := by kernel_rfl
instance : TZ Try.prog 36 false 1 8 .nilFunc := ⟨iz36, tz_agg Try.underlying36 rfl⟩
theorem iz37 : (Try.prog.info? 37).map (fun i => (i.zero, i.size, i.bytes)) = some (some .nilFunc, 1, 8) := by kernel_rfl
instance : TZ Try.prog 37 false 1 8 .nilFunc := ⟨iz37, tz_agg Try.underlying37 rfl⟩
theorem iz39 : (Try.prog.info? 39).map (fun i => (i.zero, i.size, i.bytes)) = some (some .nilFunc, 1, 8) := by kernel_rfl
instance : TZ Try.prog 39 false 1 8 .nilFunc := ⟨iz39, tz_agg Try.underlying39 rfl⟩
theorem iz40 : (Try.prog.info? 40).map (fun i => (i.zero, i.size, i.bytes)) = some (some .nilFunc, 1, 8) := by kernel_rfl
instance : TZ Try.prog 40 false 1 8 .nilFunc := ⟨iz40, tz_agg Try.underlying40 rfl⟩
theorem iz41 : (Try.prog.info? 41).map (fun i => (i.zero, i.size, i.bytes)) = some (some (.slice none 0 0), 1, 24) := by kernel_rfl
instance : TI Try.prog 41 (.slice 75) 1 24 (.slice none 0 0) := ⟨Try.underlying41, iz41⟩
instance : TZ Try.prog 41 false 1 24 (.slice none 0 0) := ⟨iz41, tz_agg Try.underlying41 rfl⟩
theorem iz43 : (Try.prog.info? 43).map (fun i => (i.zero, i.size, i.bytes)) = some (some .nilFunc, 1, 8) := by kernel_rfl
instance : TZ Try.prog 43 false 1 8 .nilFunc := ⟨iz43, tz_agg Try.underlying43 rfl⟩
theorem iz45 : (Try.prog.info? 45).map (fun i => (i.zero, i.size, i.bytes)) = some (some .nilFunc, 1, 8) := by kernel_rfl
instance : TZ Try.prog 45 false 1 8 .nilFunc := ⟨iz45, tz_agg Try.underlying45 rfl⟩
theorem iz47 : (Try.prog.info? 47).map (fun i => (i.zero, i.size, i.bytes)) = some (some .nilFunc, 1, 8) := by kernel_rfl
instance : TZ Try.prog 47 false 1 8 .nilFunc := ⟨iz47, tz_agg Try.underlying47 rfl⟩
theorem iz48 : (Try.prog.info? 48).map (fun i => (i.zero, i.size, i.bytes)) = some (some .nilFunc, 1, 8) := by kernel_rfl
instance : TZ Try.prog 48 false 1 8 .nilFunc := ⟨iz48, tz_agg Try.underlying48 rfl⟩
theorem iz49 : (Try.prog.info? 49).map (fun i => (i.zero, i.size, i.bytes)) = some (some .nilFunc, 1, 8) := by kernel_rfl
instance : TZ Try.prog 49 false 1 8 .nilFunc := ⟨iz49, tz_agg Try.underlying49 rfl⟩
theorem iz50 : (Try.prog.info? 50).map (fun i => (i.zero, i.size, i.bytes)) = some (some .nilFunc, 1, 8) := by kernel_rfl
instance : TZ Try.prog 50 false 1 8 .nilFunc := ⟨iz50, tz_agg Try.underlying50 rfl⟩
theorem iz51 : (Try.prog.info? 51).map (fun i => (i.zero, i.size, i.bytes)) = some (some (.slice none 0 0), 1, 24) := by kernel_rfl
instance : TI Try.prog 51 (.slice 65) 1 24 (.slice none 0 0) := ⟨Try.underlying51, iz51⟩
instance : TZ Try.prog 51 false 1 24 (.slice none 0 0) := ⟨iz51, tz_agg Try.underlying51 rfl⟩
theorem iz52 : (Try.prog.info? 52).map (fun i => (i.zero, i.size, i.bytes)) = some (some (.slice none 0 0), 1, 24) := by kernel_rfl
instance : TI Try.prog 52 (.slice 57) 1 24 (.slice none 0 0) := ⟨Try.underlying52, iz52⟩
instance : TZ Try.prog 52 false 1 24 (.slice none 0 0) := ⟨iz52, tz_agg Try.underlying52 rfl⟩
theorem iz53 : (Try.prog.info? 53).map (fun i => (i.zero, i.size, i.bytes)) = some (some (.slice none 0 0), 1, 24) := by kernel_rfl
instance : TI Try.prog 53 (.slice 142) 1 24 (.slice none 0 0) := ⟨Try.underlying53, iz53⟩
instance : TZ Try.prog 53 false 1 24 (.slice none 0 0) := ⟨iz53, tz_agg Try.underlying53 rfl⟩
theorem iz54 : (Try.prog.info? 54).map (fun i => (i.zero, i.size, i.bytes)) = some (some (.agg #[(.slice none 0 0), (.slice none 0 0), (.slice none 0 0), (.slice none 0 0)]), 4, 96) := by kernel_rfl
instance : TZ Try.prog 54 true 4 96 (.agg #[(.slice none 0 0), (.slice none 0 0), (.slice none 0 0), (.slice none 0 0)]) := ⟨iz54, tz_agg Try.underlying54 rfl⟩
instance : FO Try.prog 54 0 0 1 := ⟨_, _, Try.underlying54, rfl, rfl, iz_size iz41, by decide⟩
instance : FO Try.prog 54 1 1 1 := ⟨_, _, Try.underlying54, rfl, rfl, iz_size iz51, by decide⟩
instance : FO Try.prog 54 2 2 1 := ⟨_, _, Try.underlying54, rfl, rfl, iz_size iz52, by decide⟩
instance : FO Try.prog 54 3 3 1 := ⟨_, _, Try.underlying54, rfl, rfl, iz_size iz53, by decide⟩
instance : FT Try.prog 54 [(0, 1), (1, 1), (2, 1), (3, 1)] := ⟨_, Try.underlying54, .cons (iz_size iz41) (.cons (iz_size iz51) (.cons (iz_size iz52) (.cons (iz_size iz53) (.nil))))⟩
theorem iz55 : (Try.prog.info? 55).map (fun i => (i.zero, i.size, i.bytes)) = some (some (.agg #[(.slice none 0 0), (.slice none 0 0), (.slice none 0 0), (.slice none 0 0)]), 4, 96) := by kernel_rfl
instance : TZ Try.prog 55 true 4 96 (.agg #[(.slice none 0 0), (.slice none 0 0), (.slice none 0 0), (.slice none 0 0)]) := ⟨iz55, tz_agg Try.underlying55 rfl⟩
instance : FO Try.prog 55 0 0 1 := ⟨_, _, Try.underlying55, rfl, rfl, iz_size iz41, by decide⟩
instance : FO Try.prog 55 1 1 1 := ⟨_, _, Try.underlying55, rfl, rfl, iz_size iz51, by decide⟩
instance : FO Try.prog 55 2 2 1 := ⟨_, _, Try.underlying55, rfl, rfl, iz_size iz52, by decide⟩
instance : FO Try.prog 55 3 3 1 := ⟨_, _, Try.underlying55, rfl, rfl, iz_size iz53, by decide⟩
instance : FT Try.prog 55 [(0, 1), (1, 1), (2, 1), (3, 1)] := ⟨_, Try.underlying55, .cons (iz_size iz41) (.cons (iz_size iz51) (.cons (iz_size iz52) (.cons (iz_size iz53) (.nil))))⟩
theorem iz56 : (Try.prog.info? 56).map (fun i => (i.zero, i.size, i.bytes)) = some (some (.agg #[(.int .i64 0), (.int .i64 0), (.int .i64 0), (.string ⟨#[]⟩), (.slice none 0 0), (.slice none 0 0)]), 6, 88) := by kernel_rfl
instance : TZ Try.prog 56 true 6 88 (.agg #[(.int .i64 0), (.int .i64 0), (.int .i64 0), (.string ⟨#[]⟩), (.slice none 0 0), (.slice none 0 0)]) := ⟨iz56, tz_agg Try.underlying56 rfl⟩
instance : FO Try.prog 56 0 0 1 := ⟨_, _, Try.underlying56, rfl, rfl, iz_size iz3, by decide⟩
instance : FO Try.prog 56 1 1 1 := ⟨_, _, Try.underlying56, rfl, rfl, iz_size iz3, by decide⟩
instance : FO Try.prog 56 2 2 1 := ⟨_, _, Try.underlying56, rfl, rfl, iz_size iz3, by decide⟩
instance : FO Try.prog 56 3 3 1 := ⟨_, _, Try.underlying56, rfl, rfl, iz_size iz9, by decide⟩
instance : FO Try.prog 56 4 4 1 := ⟨_, _, Try.underlying56, rfl, rfl, iz_size iz23, by decide⟩
instance : FO Try.prog 56 5 5 1 := ⟨_, _, Try.underlying56, rfl, rfl, iz_size iz23, by decide⟩
instance : FT Try.prog 56 [(0, 1), (1, 1), (2, 1), (3, 1), (4, 1), (5, 1)] := ⟨_, Try.underlying56, .cons (iz_size iz3) (.cons (iz_size iz3) (.cons (iz_size iz3) (.cons (iz_size iz9) (.cons (iz_size iz23) (.cons (iz_size iz23) (.nil))))))⟩
theorem iz57 : (Try.prog.info? 57).map (fun i => (i.zero, i.size, i.bytes)) = some (some (.agg #[(.int .i64 0), (.int .i64 0), (.int .i64 0), (.string ⟨#[]⟩), (.slice none 0 0), (.slice none 0 0)]), 6, 88) := by kernel_rfl
instance : TZ Try.prog 57 true 6 88 (.agg #[(.int .i64 0), (.int .i64 0), (.int .i64 0), (.string ⟨#[]⟩), (.slice none 0 0), (.slice none 0 0)]) := ⟨iz57, tz_agg Try.underlying57 rfl⟩
instance : FO Try.prog 57 0 0 1 := ⟨_, _, Try.underlying57, rfl, rfl, iz_size iz3, by decide⟩
instance : FO Try.prog 57 1 1 1 := ⟨_, _, Try.underlying57, rfl, rfl, iz_size iz3, by decide⟩
instance : FO Try.prog 57 2 2 1 := ⟨_, _, Try.underlying57, rfl, rfl, iz_size iz3, by decide⟩
instance : FO Try.prog 57 3 3 1 := ⟨_, _, Try.underlying57, rfl, rfl, iz_size iz9, by decide⟩
instance : FO Try.prog 57 4 4 1 := ⟨_, _, Try.underlying57, rfl, rfl, iz_size iz23, by decide⟩
instance : FO Try.prog 57 5 5 1 := ⟨_, _, Try.underlying57, rfl, rfl, iz_size iz23, by decide⟩
instance : FT Try.prog 57 [(0, 1), (1, 1), (2, 1), (3, 1), (4, 1), (5, 1)] := ⟨_, Try.underlying57, .cons (iz_size iz3) (.cons (iz_size iz3) (.cons (iz_size iz3) (.cons (iz_size iz9) (.cons (iz_size iz23) (.cons (iz_size iz23) (.nil))))))⟩
theorem iz59 : (Try.prog.info? 59).map (fun i => (i.zero, i.size, i.bytes)) = some (some .nilFunc, 1, 8) := by kernel_rfl
instance : TZ Try.prog 59 false 1 8 .nilFunc := ⟨iz59, tz_agg Try.underlying59 rfl⟩
theorem iz60 : (Try.prog.info? 60).map (fun i => (i.zero, i.size, i.bytes)) = some (some .nilFunc, 1, 8) := by kernel_rfl
instance : TZ Try.prog 60 false 1 8 .nilFunc := ⟨iz60, tz_agg Try.underlying60 rfl⟩
theorem iz61 : (Try.prog.info? 61).map (fun i => (i.zero, i.size, i.bytes)) = some (some .nilFunc, 1, 8) := by kernel_rfl
instance : TZ Try.prog 61 false 1 8 .nilFunc := ⟨iz61, tz_agg Try.underlying61 rfl⟩
theorem iz62 : (Try.prog.info? 62).map (fun i => (i.zero, i.size, i.bytes)) = some (some .nilFunc, 1, 8) := by kernel_rfl
instance : TZ Try.prog 62 false 1 8 .nilFunc := ⟨iz62, tz_agg Try.underlying62 rfl⟩
theorem iz63 : (Try.prog.info? 63).map (fun i => (i.zero, i.size, i.bytes)) = some (some .nilFunc, 1, 8) := by kernel_rfl
instance : TZ Try.prog 63 false 1 8 .nilFunc := ⟨iz63, tz_agg Try.underlying63 rfl⟩
theorem iz64 : (Try.prog.info? 64).map (fun i => (i.zero, i.size, i.bytes)) = some (some (.agg #[(.int .i64 0), (.int .i64 0), (.slice none 0 0), (.string ⟨#[]⟩)]), 4, 56) := by kernel_rfl
instance : TZ Try.prog 64 true 4 56 (.agg #[(.int .i64 0), (.int .i64 0), (.slice none 0 0), (.string ⟨#[]⟩)]) := ⟨iz64, tz_agg Try.underlying64 rfl⟩
instance : FO Try.prog 64 0 0 1 := ⟨_, _, Try.underlying64, rfl, rfl, iz_size iz3, by decide⟩
instance : FO Try.prog 64 1 1 1 := ⟨_, _, Try.underlying64, rfl, rfl, iz_size iz3, by decide⟩
instance : FO Try.prog 64 2 2 1 := ⟨_, _, Try.underlying64, rfl, rfl, iz_size iz23, by decide⟩
instance : FO Try.prog 64 3 3 1 := ⟨_, _, Try.underlying64, rfl, rfl, iz_size iz9, by decide⟩
instance : FT Try.prog 64 [(0, 1), (1, 1), (2, 1), (3, 1)] := ⟨_, Try.underlying64, .cons (iz_size iz3) (.cons (iz_size iz3) (.cons (iz_size iz23) (.cons (iz_size iz9) (.nil))))⟩
theorem iz65 : (Try.prog.info? 65).map (fun i => (i.zero, i.size, i.bytes)) = some (some (.agg #[(.int .i64 0), (.int .i64 0), (.slice none 0 0), (.string ⟨#[]⟩)]), 4, 56) := by kernel_rfl
instance : TZ Try.prog 65 true 4 56 (.agg #[(.int .i64 0), (.int .i64 0), (.slice none 0 0), (.string ⟨#[]⟩)]) := ⟨iz65, tz_agg Try.underlying65 rfl⟩
instance : FO Try.prog 65 0 0 1 := ⟨_, _, Try.underlying65, rfl, rfl, iz_size iz3, by decide⟩
instance : FO Try.prog 65 1 1 1 := ⟨_, _, Try.underlying65, rfl, rfl, iz_size iz3, by decide⟩
instance : FO Try.prog 65 2 2 1 := ⟨_, _, Try.underlying65, rfl, rfl, iz_size iz23, by decide⟩
instance : FO Try.prog 65 3 3 1 := ⟨_, _, Try.underlying65, rfl, rfl, iz_size iz9, by decide⟩
instance : FT Try.prog 65 [(0, 1), (1, 1), (2, 1), (3, 1)] := ⟨_, Try.underlying65, .cons (iz_size iz3) (.cons (iz_size iz3) (.cons (iz_size iz23) (.cons (iz_size iz9) (.nil))))⟩
theorem iz66 : (Try.prog.info? 66).map (fun i => (i.zero, i.size, i.bytes)) = some (some .nilFunc, 1, 8) := by kernel_rfl
instance : TZ Try.prog 66 false 1 8 .nilFunc := ⟨iz66, tz_agg Try.underlying66 rfl⟩
theorem iz67 : (Try.prog.info? 67).map (fun i => (i.zero, i.size, i.bytes)) = some (some .nilFunc, 1, 8) := by kernel_rfl
instance : TZ Try.prog 67 false 1 8 .nilFunc := ⟨iz67, tz_agg Try.underlying67 rfl⟩
theorem iz68 : (Try.prog.info? 68).map (fun i => (i.zero, i.size, i.bytes)) = some (some (.agg #[(.int .i64 0), (.int .i64 0), (.string ⟨#[]⟩), (.int .i64 0)]), 4, 40) := by kernel_rfl
instance : TZ Try.prog 68 true 4 40 (.agg #[(.int .i64 0), (.int .i64 0), (.string ⟨#[]⟩), (.int .i64 0)]) := ⟨iz68, tz_agg Try.underlying68 rfl⟩
instance : FO Try.prog 68 0 0 1 := ⟨_, _, Try.underlying68, rfl, rfl, iz_size iz3, by decide⟩
instance : FO Try.prog 68 1 1 1 := ⟨_, _, Try.underlying68, rfl, rfl, iz_size iz3, by decide⟩
instance : FO Try.prog 68 2 2 1 := ⟨_, _, Try.underlying68, rfl, rfl, iz_size iz9, by decide⟩
instance : FO Try.prog 68 3 3 1 := ⟨_, _, Try.underlying68, rfl, rfl, iz_size iz3, by decide⟩
instance : FT Try.prog 68 [(0, 1), (1, 1), (2, 1), (3, 1)] := ⟨_, Try.underlying68, .cons (iz_size iz3) (.cons (iz_size iz3) (.cons (iz_size iz9) (.cons (iz_size iz3) (.nil))))⟩
theorem iz69 : (Try.prog.info? 69).map (fun i => (i.zero, i.size, i.bytes)) = some (some (.agg #[(.int .i64 0), (.int .i64 0), (.string ⟨#[]⟩), (.int .i64 0)]), 4, 40) := by kernel_rfl
instance : TZ Try.prog 69 true 4 40 (.agg #[(.int .i64 0), (.int .i64 0), (.string ⟨#[]⟩), (.int .i64 0)]) := ⟨iz69, tz_agg Try.underlying69 rfl⟩
instance : FO Try.prog 69 0 0 1 := ⟨_, _, Try.underlying69, rfl, rfl, iz_size iz3, by decide⟩
instance : FO Try.prog 69 1 1 1 := ⟨_, _, Try.underlying69, rfl, rfl, iz_size iz3, by decide⟩
instance : FO Try.prog 69 2 2 1 := ⟨_, _, Try.underlying69, rfl, rfl, iz_size iz9, by decide⟩
instance : FO Try.prog 69 3 3 1 := ⟨_, _, Try.underlying69, rfl, rfl, iz_size iz3, by decide⟩
instance : FT Try.prog 69 [(0, 1), (1, 1), (2, 1), (3, 1)] := ⟨_, Try.underlying69, .cons (iz_size iz3) (.cons (iz_size iz3) (.cons (iz_size iz9) (.cons (iz_size iz3) (.nil))))⟩
instance : EQ Try.prog 69 [.int .i64, .int .i64, .str, .int .i64] := ⟨by kernel_rfl, by kernel_rfl, _, Try.underlying69, (.int (by decide) rfl Try.underlying3 (.int (by decide) rfl Try.underlying3 (.str (by decide) rfl Try.underlying9 (.int (by decide) rfl Try.underlying3 .nil))))⟩
theorem iz70 : (Try.prog.info? 70).map (fun i => (i.zero, i.size, i.bytes)) = some (some (.map none), 1, 8) := by kernel_rfl
instance : TI Try.prog 70 (.map 72 3) 1 8 (.map none) := ⟨Try.underlying70, iz70⟩
instance : TZ Try.prog 70 false 1 8 (.map none) := ⟨iz70, tz_agg Try.underlying70 rfl⟩
theorem iz71 : (Try.prog.info? 71).map (fun i => (i.zero, i.size, i.bytes)) = some (some (.agg #[(.int .i64 0), (.int .i64 0)]), 2, 16) := by kernel_rfl
instance : TZ Try.prog 71 true 2 16 (.agg #[(.int .i64 0), (.int .i64 0)]) := ⟨iz71, tz_agg Try.underlying71 rfl⟩
instance : FO Try.prog 71 0 0 1 := ⟨_, _, Try.underlying71, rfl, rfl, iz_size iz3, by decide⟩
instance : FO Try.prog 71 1 1 1 := ⟨_, _, Try.underlying71, rfl, rfl, iz_size iz3, by decide⟩
instance : FT Try.prog 71 [(0, 1), (1, 1)] := ⟨_, Try.underlying71, .cons (iz_size iz3) (.cons (iz_size iz3) (.nil))⟩
theorem iz72 : (Try.prog.info? 72).map (fun i => (i.zero, i.size, i.bytes)) = some (some (.agg #[(.int .i64 0), (.int .i64 0)]), 2, 16) := by kernel_rfl
instance : TZ Try.prog 72 true 2 16 (.agg #[(.int .i64 0), (.int .i64 0)]) := ⟨iz72, tz_agg Try.underlying72 rfl⟩
instance : FO Try.prog 72 0 0 1 := ⟨_, _, Try.underlying72, rfl, rfl, iz_size iz3, by decide⟩
instance : FO Try.prog 72 1 1 1 := ⟨_, _, Try.underlying72, rfl, rfl, iz_size iz3, by decide⟩
instance : FT Try.prog 72 [(0, 1), (1, 1)] := ⟨_, Try.underlying72, .cons (iz_size iz3) (.cons (iz_size iz3) (.nil))⟩
instance : EQ Try.prog 72 [.int .i64, .int .i64] := ⟨by kernel_rfl, by kernel_rfl, _, Try.underlying72, (.int (by decide) rfl Try.underlying3 (.int (by decide) rfl Try.underlying3 .nil))⟩
theorem iz74 : (Try.prog.info? 74).map (fun i => (i.zero, i.size, i.bytes)) = some (some (.agg #[(.int .i64 0), (.int .i64 0), (.int .i64 0), (.int .i64 0)]), 4, 32) := by kernel_rfl
instance : TZ Try.prog 74 true 4 32 (.agg #[(.int .i64 0), (.int .i64 0), (.int .i64 0), (.int .i64 0)]) := ⟨iz74, tz_agg Try.underlying74 rfl⟩
instance : FO Try.prog 74 0 0 1 := ⟨_, _, Try.underlying74, rfl, rfl, iz_size iz3, by decide⟩
instance : FO Try.prog 74 1 1 1 := ⟨_, _, Try.underlying74, rfl, rfl, iz_size iz3, by decide⟩
instance : FO Try.prog 74 2 2 1 := ⟨_, _, Try.underlying74, rfl, rfl, iz_size iz3, by decide⟩
instance : FO Try.prog 74 3 3 1 := ⟨_, _, Try.underlying74, rfl, rfl, iz_size iz3, by decide⟩
instance : FT Try.prog 74 [(0, 1), (1, 1), (2, 1), (3, 1)] := ⟨_, Try.underlying74, .cons (iz_size iz3) (.cons (iz_size iz3) (.cons (iz_size iz3) (.cons (iz_size iz3) (.nil))))⟩
theorem iz75 : (Try.prog.info? 75).map (fun i => (i.zero, i.size, i.bytes)) = some (some (.agg #[(.int .i64 0), (.int .i64 0), (.int .i64 0), (.int .i64 0)]), 4, 32) := by kernel_rfl
instance : TZ Try.prog 75 true 4 32 (.agg #[(.int .i64 0), (.int .i64 0), (.int .i64 0), (.int .i64 0)]) := ⟨iz75, tz_agg Try.underlying75 rfl⟩
instance : FO Try.prog 75 0 0 1 := ⟨_, _, Try.underlying75, rfl, rfl, iz_size iz3, by decide⟩
instance : FO Try.prog 75 1 1 1 := ⟨_, _, Try.underlying75, rfl, rfl, iz_size iz3, by decide⟩
instance : FO Try.prog 75 2 2 1 := ⟨_, _, Try.underlying75, rfl, rfl, iz_size iz3, by decide⟩
instance : FO Try.prog 75 3 3 1 := ⟨_, _, Try.underlying75, rfl, rfl, iz_size iz3, by decide⟩
instance : FT Try.prog 75 [(0, 1), (1, 1), (2, 1), (3, 1)] := ⟨_, Try.underlying75, .cons (iz_size iz3) (.cons (iz_size iz3) (.cons (iz_size iz3) (.cons (iz_size iz3) (.nil))))⟩
instance : EQ Try.prog 75 [.int .i64, .int .i64, .int .i64, .int .i64] := ⟨by kernel_rfl, by kernel_rfl, _, Try.underlying75, (.int (by decide) rfl Try.underlying3 (.int (by decide) rfl Try.underlying3 (.int (by decide) rfl Try.underlying3 (.int (by decide) rfl Try.underlying3 .nil))))⟩
theorem iz76 : (Try.prog.info? 76).map (fun i => (i.zero, i.size, i.bytes)) = some (some .nilFunc, 1, 8) := by kernel_rfl
instance : TZ Try.prog 76 false 1 8 .nilFunc := ⟨iz76, tz_agg Try.underlying76 rfl⟩
theorem iz77 : (Try.prog.info? 77).map (fun i => (i.zero, i.size, i.bytes)) = some (some (.map none), 1, 8) := by kernel_rfl
instance : TI Try.prog 77 (.map 80 3) 1 8 (.map none) := ⟨Try.underlying77, iz77⟩
instance : TZ Try.prog 77 false 1 8 (.map none) := ⟨iz77, tz_agg Try.underlying77 rfl⟩
theorem iz78 : (Try.prog.info? 78).map (fun i => (i.zero, i.size, i.bytes)) = some (some .nilFunc, 1, 8) := by kernel_rfl
instance : TZ Try.prog 78 false 1 8 .nilFunc := ⟨iz78, tz_agg Try.underlying78 rfl⟩
theorem iz79 : (Try.prog.info? 79).map (fun i => (i.zero, i.size, i.bytes)) = some (some (.agg #[(.int .i64 0), (.int .i64 0)]), 2, 16) := by kernel_rfl
instance : TZ Try.prog 79 true 2 16 (.agg #[(.int .i64 0), (.int .i64 0)]) := ⟨iz79, tz_agg Try.underlying79 rfl⟩
instance : FO Try.prog 79 0 0 1 := ⟨_, _, Try.underlying79, rfl, rfl, iz_size iz3, by decide⟩
instance : FO Try.prog 79 1 1 1 := ⟨_, _, Try.underlying79, rfl, rfl, iz_size iz3, by decide⟩
instance : FT Try.prog 79 [(0, 1), (1, 1)] := ⟨_, Try.underlying79, .cons (iz_size iz3) (.cons (iz_size iz3) (.nil))⟩
theorem iz80 : (Try.prog.info? 80).map (fun i => (i.zero, i.size, i.bytes)) = some (some (.agg #[(.int .i64 0), (.int .i64 0)]), 2, 16) := by kernel_rfl
instance : TZ Try.prog 80 true 2 16 (.agg #[(.int .i64 0), (.int .i64 0)]) := ⟨iz80, tz_agg Try.underlying80 rfl⟩
instance : FO Try.prog 80 0 0 1 := ⟨_, _, Try.underlying80, rfl, rfl, iz_size iz3, by decide⟩
instance : FO Try.prog 80 1 1 1 := ⟨_, _, Try.underlying80, rfl, rfl, iz_size iz3, by decide⟩
instance : FT Try.prog 80 [(0, 1), (1, 1)] := ⟨_, Try.underlying80, .cons (iz_size iz3) (.cons (iz_size iz3) (.nil))⟩
instance : EQ Try.prog 80 [.int .i64, .int .i64] := ⟨by kernel_rfl, by kernel_rfl, _, Try.underlying80, (.int (by decide) rfl Try.underlying3 (.int (by decide) rfl Try.underlying3 .nil))⟩
theorem iz81 : (Try.prog.info? 81).map (fun i => (i.zero, i.size, i.bytes)) = some (some .nilFunc, 1, 8) := by kernel_rfl
instance : TZ Try.prog 81 false 1 8 .nilFunc := ⟨iz81, tz_agg Try.underlying81 rfl⟩
theorem iz82 : (Try.prog.info? 82).map (fun i => (i.zero, i.size, i.bytes)) = some (some .nilFunc, 1, 8) := by kernel_rfl
instance : TZ Try.prog 82 false 1 8 .nilFunc := ⟨iz82, tz_agg Try.underlying82 rfl⟩
theorem iz83 : (Try.prog.info? 83).map (fun i => (i.zero, i.size, i.bytes)) = some (some .nilFunc, 1, 8) := by kernel_rfl
instance : TZ Try.prog 83 false 1 8 .nilFunc := ⟨iz83, tz_agg Try.underlying83 rfl⟩
theorem iz84 : (Try.prog.info? 84).map (fun i => (i.zero, i.size, i.bytes)) = some (some .nilFunc, 1, 8) := by kernel_rfl
instance : TZ Try.prog 84 false 1 8 .nilFunc := ⟨iz84, tz_agg Try.underlying84 rfl⟩
theorem iz85 : (Try.prog.info? 85).map (fun i => (i.zero, i.size, i.bytes)) = some (some .nilFunc, 1, 8) := by kernel_rfl
instance : TZ Try.prog 85 false 1 8 .nilFunc := ⟨iz85, tz_agg Try.underlying85 rfl⟩
theorem iz86 : (Try.prog.info? 86).map (fun i => (i.zero, i.size, i.bytes)) = some (some .nilFunc, 1, 8) := by kernel_rfl
instance : TZ Try.prog 86 false 1 8 .nilFunc := ⟨iz86, tz_agg Try.underlying86 rfl⟩
theorem iz87 : (Try.prog.info? 87).map (fun i => (i.zero, i.size, i.bytes)) = some (some .nilFunc, 1, 8) := by kernel_rfl
instance : TZ Try.prog 87 false 1 8 .nilFunc := ⟨iz87, tz_agg Try.underlying87 rfl⟩
theorem iz88 : (Try.prog.info? 88).map (fun i => (i.zero, i.size, i.bytes)) = some (some .nilFunc, 1, 8) := by kernel_rfl
instance : TZ Try.prog 88 false 1 8 .nilFunc := ⟨iz88, tz_agg Try.underlying88 rfl⟩
theorem iz89 : (Try.prog.info? 89).map (fun i => (i.zero, i.size, i.bytes)) = some (some .nilFunc, 1, 8) := by kernel_rfl
instance : TZ Try.prog 89 false 1 8 .nilFunc := ⟨iz89, tz_agg Try.underlying89 rfl⟩
theorem iz90 : (Try.prog.info? 90).map (fun i => (i.zero, i.size, i.bytes)) = some (some .nilFunc, 1, 8) := by kernel_rfl
instance : TZ Try.prog 90 false 1 8 .nilFunc := ⟨iz90, tz_agg Try.underlying90 rfl⟩
theorem iz91 : (Try.prog.info? 91).map (fun i => (i.zero, i.size, i.bytes)) = some (some .nilFunc, 1, 8) := by kernel_rfl
instance : TZ Try.prog 91 false 1 8 .nilFunc := ⟨iz91, tz_agg Try.underlying91 rfl⟩
theorem iz92 : (Try.prog.info? 92).map (fun i => (i.zero, i.size, i.bytes)) = some (some .nilFunc, 1, 8) := by kernel_rfl
instance : TZ Try.prog 92 false 1 8 .nilFunc := ⟨iz92, tz_agg Try.underlying92 rfl⟩
theorem iz93 : (Try.prog.info? 93).map (fun i => (i.zero, i.size, i.bytes)) = some (some .nilFunc, 1, 8) := by kernel_rfl
instance : TZ Try.prog 93 false 1 8 .nilFunc := ⟨iz93, tz_agg Try.underlying93 rfl⟩
theorem iz94 : (Try.prog.info? 94).map (fun i => (i.zero, i.size, i.bytes)) = some (some .nilFunc, 1, 8) := by kernel_rfl
instance : TZ Try.prog 94 false 1 8 .nilFunc := ⟨iz94, tz_agg Try.underlying94 rfl⟩
theorem iz95 : (Try.prog.info? 95).map (fun i => (i.zero, i.size, i.bytes)) = some (some (.int .u64 0), 1, 8) := by kernel_rfl
instance : TI Try.prog 95 (.int .u64) 1 8 (.int .u64 0) := ⟨Try.underlying95, iz95⟩
instance : TZ Try.prog 95 false 1 8 (.int .u64 0) := ⟨iz95, tz_agg Try.underlying95 rfl⟩
theorem iz96 : (Try.prog.info? 96).map (fun i => (i.zero, i.size, i.bytes)) = some (some .nilFunc, 1, 8) := by kernel_rfl
instance : TZ Try.prog 96 false 1 8 .nilFunc := ⟨iz96, tz_agg Try.underlying96 rfl⟩
theorem iz97 : (Try.prog.info? 97).map (fun i => (i.zero, i.size, i.bytes)) = some (some (.int .i64 0), 1, 8) := by kernel_rfl
instance : TI Try.prog 97 (.int .i64) 1 8 (.int .i64 0) := ⟨Try.underlying97, iz97⟩
instance : TZ Try.prog 97 false 1 8 (.int .i64 0) := ⟨iz97, tz_agg Try.underlying97 rfl⟩
theorem iz99 : (Try.prog.info? 99).map (fun i => (i.zero, i.size, i.bytes)) = some (some .nilFunc, 1, 8) := by kernel_rfl
instance : TZ Try.prog 99 false 1 8 .nilFunc := ⟨iz99, tz_agg Try.underlying99 rfl⟩
theorem iz100 : (Try.prog.info? 100).map (fun i => (i.zero, i.size, i.bytes)) = some (some .nilFunc, 1, 8) := by kernel_rfl
instance : TZ Try.prog 100 false 1 8 .nilFunc := ⟨iz100, tz_agg Try.underlying100 rfl⟩
theorem iz101 : (Try.prog.info? 101).map (fun i => (i.zero, i.size, i.bytes)) = some (some .nilFunc, 1, 8) := by kernel_rfl
instance : TZ Try.prog 101 false 1 8 .nilFunc := ⟨iz101, tz_agg Try.underlying101 rfl⟩
theorem iz102 : (Try.prog.info? 102).map (fun i => (i.zero, i.size, i.bytes)) = some (some .nilFunc, 1, 8) := by kernel_rfl
instance : TZ Try.prog 102 false 1 8 .nilFunc := ⟨iz102, tz_agg Try.underlying102 rfl⟩
theorem iz103 : (Try.prog.info? 103).map (fun i => (i.zero, i.size, i.bytes)) = some (some .nilFunc, 1, 8) := by kernel_rfl
instance : TZ Try.prog 103 false 1 8 .nilFunc := ⟨iz103, tz_agg Try.underlying103 rfl⟩
theorem iz104 : (Try.prog.info? 104).map (fun i => (i.zero, i.size, i.bytes)) = some (some .nilFunc, 1, 8) := by kernel_rfl
instance : TZ Try.prog 104 false 1 8 .nilFunc := ⟨iz104, tz_agg Try.underlying104 rfl⟩
theorem iz105 : (Try.prog.info? 105).map (fun i => (i.zero, i.size, i.bytes)) = some (some (.int .u32 0), 1, 4) := by kernel_rfl
instance : TI Try.prog 105 (.int .u32) 1 4 (.int .u32 0) := ⟨Try.underlying105, iz105⟩
instance : TZ Try.prog 105 false 1 4 (.int .u32 0) := ⟨iz105, tz_agg Try.underlying105 rfl⟩
theorem iz106 : (Try.prog.info? 106).map (fun i => (i.zero, i.size, i.bytes)) = some (some .nilFunc, 1, 8) := by kernel_rfl
instance : TZ Try.prog 106 false 1 8 .nilFunc := ⟨iz106, tz_agg Try.underlying106 rfl⟩
theorem iz107 : (Try.prog.info? 107).map (fun i => (i.zero, i.size, i.bytes)) = some (some (.int .u64 0), 1, 8) := by kernel_rfl
instance : TI Try.prog 107 (.int .u64) 1 8 (.int .u64 0) := ⟨Try.underlying107, iz107⟩
instance : TZ Try.prog 107 false 1 8 (.int .u64 0) := ⟨iz107, tz_agg Try.underlying107 rfl⟩
theorem iz108 : (Try.prog.info? 108).map (fun i => (i.zero, i.size, i.bytes)) = some (some (.int .u64 0), 1, 8) := by kernel_rfl
instance : TI Try.prog 108 (.int .u64) 1 8 (.int .u64 0) := ⟨Try.underlying108, iz108⟩
instance : TZ Try.prog 108 false 1 8 (.int .u64 0) := ⟨iz108, tz_agg Try.underlying108 rfl⟩
theorem iz109 : (Try.prog.info? 109).map (fun i => (i.zero, i.size, i.bytes)) = some (some .nilFunc, 1, 8) := by kernel_rfl
instance : TZ Try.prog 109 false 1 8 .nilFunc := ⟨iz109, tz_agg Try.underlying109 rfl⟩
theorem iz110 : (Try.prog.info? 110).map (fun i => (i.zero, i.size, i.bytes)) = some (some .nilFunc, 1, 8) := by kernel_rfl
instance : TZ Try.prog 110 false 1 8 .nilFunc := ⟨iz110, tz_agg Try.underlying110 rfl⟩
theorem iz111 : (Try.prog.info? 111).map (fun i => (i.zero, i.size, i.bytes)) = some (some .nilFunc, 1, 8) := by kernel_rfl
instance : TZ Try.prog 111 false 1 8 .nilFunc := ⟨iz111, tz_agg Try.underlying111 rfl⟩
theorem iz112 : (Try.prog.info? 112).map (fun i => (i.zero, i.size, i.bytes)) = some (some (.pointer none), 1, 8) := by kernel_rfl
instance : TI Try.prog 112 (.pointer 3) 1 8 (.pointer none) := ⟨Try.underlying112, iz112⟩
instance : TZ Try.prog 112 false 1 8 (.pointer none) := ⟨iz112, tz_agg Try.underlying112 rfl⟩
theorem iz113 : (Try.prog.info? 113).map (fun i => (i.zero, i.size, i.bytes)) = some (some .nilFunc, 1, 8) := by kernel_rfl
instance : TZ Try.prog 113 false 1 8 .nilFunc := ⟨iz113, tz_agg Try.underlying113 rfl⟩
theorem iz114 : (Try.prog.info? 114).map (fun i => (i.zero, i.size, i.bytes)) = some (some (.pointer none), 1, 8) := by kernel_rfl
instance : TI Try.prog 114 (.pointer 108) 1 8 (.pointer none) := ⟨Try.underlying114, iz114⟩
instance : TZ Try.prog 114 false 1 8 (.pointer none) := ⟨iz114, tz_agg Try.underlying114 rfl⟩
theorem iz116 : (Try.prog.info? 116).map (fun i => (i.zero, i.size, i.bytes)) = some (some .nilFunc, 1, 8) := by kernel_rfl
instance : TZ Try.prog 116 false 1 8 .nilFunc := ⟨iz116, tz_agg Try.underlying116 rfl⟩
theorem iz117 : (Try.prog.info? 117).map (fun i => (i.zero, i.size, i.bytes)) = some (some .nilFunc, 1, 8) := by kernel_rfl
instance : TZ Try.prog 117 false 1 8 .nilFunc := ⟨iz117, tz_agg Try.underlying117 rfl⟩
theorem iz118 : (Try.prog.info? 118).map (fun i => (i.zero, i.size, i.bytes)) = some (some (.agg #[(.pointer none), (.pointer none), (.pointer none), (.string ⟨#[]⟩)]), 4, 40) := by kernel_rfl
instance : TZ Try.prog 118 true 4 40 (.agg #[(.pointer none), (.pointer none), (.pointer none), (.string ⟨#[]⟩)]) := ⟨iz118, tz_agg Try.underlying118 rfl⟩
instance : FO Try.prog 118 0 0 1 := ⟨_, _, Try.underlying118, rfl, rfl, iz_size iz17, by decide⟩
instance : FO Try.prog 118 1 1 1 := ⟨_, _, Try.underlying118, rfl, rfl, iz_size iz17, by decide⟩
instance : FO Try.prog 118 2 2 1 := ⟨_, _, Try.underlying118, rfl, rfl, iz_size iz17, by decide⟩
instance : FO Try.prog 118 3 3 1 := ⟨_, _, Try.underlying118, rfl, rfl, iz_size iz9, by decide⟩
instance : FT Try.prog 118 [(0, 1), (1, 1), (2, 1), (3, 1)] := ⟨_, Try.underlying118, .cons (iz_size iz17) (.cons (iz_size iz17) (.cons (iz_size iz17) (.cons (iz_size iz9) (.nil))))⟩
theorem iz119 : (Try.prog.info? 119).map (fun i => (i.zero, i.size, i.bytes)) = some (some (.agg #[(.pointer none), (.pointer none), (.pointer none), (.string ⟨#[]⟩)]), 4, 40) := by kernel_rfl
instance : TZ Try.prog 119 true 4 40 (.agg #[(.pointer none), (.pointer none), (.pointer none), (.string ⟨#[]⟩)]) := ⟨iz119, tz_agg Try.underlying119 rfl⟩
instance : FO Try.prog 119 0 0 1 := ⟨_, _, Try.underlying119, rfl, rfl, iz_size iz17, by decide⟩
instance : FO Try.prog 119 1 1 1 := ⟨_, _, Try.underlying119, rfl, rfl, iz_size iz17, by decide⟩
instance : FO Try.prog 119 2 2 1 := ⟨_, _, Try.underlying119, rfl, rfl, iz_size iz17, by decide⟩
instance : FO Try.prog 119 3 3 1 := ⟨_, _, Try.underlying119, rfl, rfl, iz_size iz9, by decide⟩
instance : FT Try.prog 119 [(0, 1), (1, 1), (2, 1), (3, 1)] := ⟨_, Try.underlying119, .cons (iz_size iz17) (.cons (iz_size iz17) (.cons (iz_size iz17) (.cons (iz_size iz9) (.nil))))⟩
theorem iz120 : (Try.prog.info? 120).map (fun i => (i.zero, i.size, i.bytes)) = some (some (.agg #[]), 0, 0) := by kernel_rfl
instance : TI Try.prog 120 (.array 0 16) 0 0 (.agg #[]) := ⟨Try.underlying120, iz120⟩
instance : TZ Try.prog 120 true 0 0 (.agg #[]) := ⟨iz120, tz_agg Try.underlying120 rfl⟩
theorem iz121 : (Try.prog.info? 121).map (fun i => (i.zero, i.size, i.bytes)) = some (some (.agg #[]), 0, 0) := by kernel_rfl
instance : TZ Try.prog 121 true 0 0 (.agg #[]) := ⟨iz121, tz_agg Try.underlying121 rfl⟩
theorem iz122 : (Try.prog.info? 122).map (fun i => (i.zero, i.size, i.bytes)) = some (some (.agg #[]), 0, 0) := by kernel_rfl
instance : TZ Try.prog 122 true 0 0 (.agg #[]) := ⟨iz122, tz_agg Try.underlying122 rfl⟩
theorem iz123 : (Try.prog.info? 123).map (fun i => (i.zero, i.size, i.bytes)) = some (some .nilFunc, 1, 8) := by kernel_rfl
instance : TZ Try.prog 123 false 1 8 .nilFunc := ⟨iz123, tz_agg Try.underlying123 rfl⟩
theorem iz124 : (Try.prog.info? 124).map (fun i => (i.zero, i.size, i.bytes)) = some (some (.int .u8 0), 1, 1) := by kernel_rfl
instance : TI Try.prog 124 (.int .u8) 1 1 (.int .u8 0) := ⟨Try.underlying124, iz124⟩
instance : TZ Try.prog 124 false 1 1 (.int .u8 0) := ⟨iz124, tz_agg Try.underlying124 rfl⟩
theorem iz125 : (Try.prog.info? 125).map (fun i => (i.zero, i.size, i.bytes)) = some (some (.int .u8 0), 1, 1) := by kernel_rfl
instance : TI Try.prog 125 (.int .u8) 1 1 (.int .u8 0) := ⟨Try.underlying125, iz125⟩
instance : TZ Try.prog 125 false 1 1 (.int .u8 0) := ⟨iz125, tz_agg Try.underlying125 rfl⟩
theorem iz126 : (Try.prog.info? 126).map (fun i => (i.zero, i.size, i.bytes)) = some (some .nilFunc, 1, 8) := by kernel_rfl
instance : TZ Try.prog 126 false 1 8 .nilFunc := ⟨iz126, tz_agg Try.underlying126 rfl⟩
theorem iz127 : (Try.prog.info? 127).map (fun i => (i.zero, i.size, i.bytes)) = some (some (.pointer none), 1, 8) := by kernel_rfl
instance : TI Try.prog 127 (.pointer 5) 1 8 (.pointer none) := ⟨Try.underlying127, iz127⟩
instance : TZ Try.prog 127 false 1 8 (.pointer none) := ⟨iz127, tz_agg Try.underlying127 rfl⟩
theorem iz128 : (Try.prog.info? 128).map (fun i => (i.zero, i.size, i.bytes)) = some (some (.int .i32 0), 1, 4) := by kernel_rfl
instance : TI Try.prog 128 (.int .i32) 1 4 (.int .i32 0) := ⟨Try.underlying128, iz128⟩
instance : TZ Try.prog 128 false 1 4 (.int .i32 0) := ⟨iz128, tz_agg Try.underlying128 rfl⟩
theorem iz129 : (Try.prog.info? 129).map (fun i => (i.zero, i.size, i.bytes)) = some (some (.int .i32 0), 1, 4) := by kernel_rfl
instance : TI Try.prog 129 (.int .i32) 1 4 (.int .i32 0) := ⟨Try.underlying129, iz129⟩
instance : TZ Try.prog 129 false 1 4 (.int .i32 0) := ⟨iz129, tz_agg Try.underlying129 rfl⟩
theorem iz130 : (Try.prog.info? 130).map (fun i => (i.zero, i.size, i.bytes)) = some (some (.agg #[(.int .u64 0), (.int .u64 0), (.int .u32 0), (.int .u8 0), (.int .u8 0), (.int .u8 0), (.int .u8 0), .nilFunc, (.pointer none), (.int .i32 0), (.int .i32 0)]), 11, 48) := by kernel_rfl
instance : TZ Try.prog 130 true 11 48 (.agg #[(.int .u64 0), (.int .u64 0), (.int .u32 0), (.int .u8 0), (.int .u8 0), (.int .u8 0), (.int .u8 0), .nilFunc, (.pointer none), (.int .i32 0), (.int .i32 0)]) := ⟨iz130, tz_agg Try.underlying130 rfl⟩
instance : FO Try.prog 130 0 0 1 := ⟨_, _, Try.underlying130, rfl, rfl, iz_size iz12, by decide⟩
instance : FO Try.prog 130 1 1 1 := ⟨_, _, Try.underlying130, rfl, rfl, iz_size iz12, by decide⟩
instance : FO Try.prog 130 2 2 1 := ⟨_, _, Try.underlying130, rfl, rfl, iz_size iz105, by decide⟩
instance : FO Try.prog 130 3 3 1 := ⟨_, _, Try.underlying130, rfl, rfl, iz_size iz124, by decide⟩
instance : FO Try.prog 130 4 4 1 := ⟨_, _, Try.underlying130, rfl, rfl, iz_size iz5, by decide⟩
instance : FO Try.prog 130 5 5 1 := ⟨_, _, Try.underlying130, rfl, rfl, iz_size iz5, by decide⟩
instance : FO Try.prog 130 6 6 1 := ⟨_, _, Try.underlying130, rfl, rfl, iz_size iz125, by decide⟩
instance : FO Try.prog 130 7 7 1 := ⟨_, _, Try.underlying130, rfl, rfl, iz_size iz126, by decide⟩
instance : FO Try.prog 130 8 8 1 := ⟨_, _, Try.underlying130, rfl, rfl, iz_size iz127, by decide⟩
instance : FO Try.prog 130 9 9 1 := ⟨_, _, Try.underlying130, rfl, rfl, iz_size iz128, by decide⟩
instance : FO Try.prog 130 10 10 1 := ⟨_, _, Try.underlying130, rfl, rfl, iz_size iz129, by decide⟩
instance : FT Try.prog 130 [(0, 1), (1, 1), (2, 1), (3, 1), (4, 1), (5, 1), (6, 1), (7, 1), (8, 1), (9, 1), (10, 1)] := ⟨_, Try.underlying130, .cons (iz_size iz12) (.cons (iz_size iz12) (.cons (iz_size iz105) (.cons (iz_size iz124) (.cons (iz_size iz5) (.cons (iz_size iz5) (.cons (iz_size iz125) (.cons (iz_size iz126) (.cons (iz_size iz127) (.cons (iz_size iz128) (.cons (iz_size iz129) (.nil)))))))))))⟩
theorem iz131 : (Try.prog.info? 131).map (fun i => (i.zero, i.size, i.bytes)) = some (some (.agg #[(.int .u64 0), (.int .u64 0), (.int .u32 0), (.int .u8 0), (.int .u8 0), (.int .u8 0), (.int .u8 0), .nilFunc, (.pointer none), (.int .i32 0), (.int .i32 0)]), 11, 48) := by kernel_rfl
instance : TZ Try.prog 131 true 11 48 (.agg #[(.int .u64 0), (.int .u64 0), (.int .u32 0), (.int .u8 0), (.int .u8 0), (.int .u8 0), (.int .u8 0), .nilFunc, (.pointer none), (.int .i32 0), (.int .i32 0)]) := ⟨iz131, tz_agg Try.underlying131 rfl⟩
instance : FO Try.prog 131 0 0 1 := ⟨_, _, Try.underlying131, rfl, rfl, iz_size iz12, by decide⟩
instance : FO Try.prog 131 1 1 1 := ⟨_, _, Try.underlying131, rfl, rfl, iz_size iz12, by decide⟩
instance : FO Try.prog 131 2 2 1 := ⟨_, _, Try.underlying131, rfl, rfl, iz_size iz105, by decide⟩
instance : FO Try.prog 131 3 3 1 := ⟨_, _, Try.underlying131, rfl, rfl, iz_size iz124, by decide⟩
instance : FO Try.prog 131 4 4 1 := ⟨_, _, Try.underlying131, rfl, rfl, iz_size iz5, by decide⟩
instance : FO Try.prog 131 5 5 1 := ⟨_, _, Try.underlying131, rfl, rfl, iz_size iz5, by decide⟩
instance : FO Try.prog 131 6 6 1 := ⟨_, _, Try.underlying131, rfl, rfl, iz_size iz125, by decide⟩
instance : FO Try.prog 131 7 7 1 := ⟨_, _, Try.underlying131, rfl, rfl, iz_size iz126, by decide⟩
instance : FO Try.prog 131 8 8 1 := ⟨_, _, Try.underlying131, rfl, rfl, iz_size iz127, by decide⟩
instance : FO Try.prog 131 9 9 1 := ⟨_, _, Try.underlying131, rfl, rfl, iz_size iz128, by decide⟩
instance : FO Try.prog 131 10 10 1 := ⟨_, _, Try.underlying131, rfl, rfl, iz_size iz129, by decide⟩
instance : FT Try.prog 131 [(0, 1), (1, 1), (2, 1), (3, 1), (4, 1), (5, 1), (6, 1), (7, 1), (8, 1), (9, 1), (10, 1)] := ⟨_, Try.underlying131, .cons (iz_size iz12) (.cons (iz_size iz12) (.cons (iz_size iz105) (.cons (iz_size iz124) (.cons (iz_size iz5) (.cons (iz_size iz5) (.cons (iz_size iz125) (.cons (iz_size iz126) (.cons (iz_size iz127) (.cons (iz_size iz128) (.cons (iz_size iz129) (.nil)))))))))))⟩
theorem iz132 : (Try.prog.info? 132).map (fun i => (i.zero, i.size, i.bytes)) = some (some (.agg #[(.string ⟨#[]⟩), (.string ⟨#[]⟩), (.string ⟨#[]⟩), (.bool false)]), 4, 56) := by kernel_rfl
instance : TZ Try.prog 132 true 4 56 (.agg #[(.string ⟨#[]⟩), (.string ⟨#[]⟩), (.string ⟨#[]⟩), (.bool false)]) := ⟨iz132, tz_agg Try.underlying132 rfl⟩
instance : FO Try.prog 132 0 0 1 := ⟨_, _, Try.underlying132, rfl, rfl, iz_size iz9, by decide⟩
instance : FO Try.prog 132 1 1 1 := ⟨_, _, Try.underlying132, rfl, rfl, iz_size iz9, by decide⟩
instance : FO Try.prog 132 2 2 1 := ⟨_, _, Try.underlying132, rfl, rfl, iz_size iz9, by decide⟩
instance : FO Try.prog 132 3 3 1 := ⟨_, _, Try.underlying132, rfl, rfl, iz_size iz4, by decide⟩
instance : FT Try.prog 132 [(0, 1), (1, 1), (2, 1), (3, 1)] := ⟨_, Try.underlying132, .cons (iz_size iz9) (.cons (iz_size iz9) (.cons (iz_size iz9) (.cons (iz_size iz4) (.nil))))⟩
theorem iz133 : (Try.prog.info? 133).map (fun i => (i.zero, i.size, i.bytes)) = some (some (.agg #[(.string ⟨#[]⟩), (.string ⟨#[]⟩), (.string ⟨#[]⟩), (.bool false)]), 4, 56) := by kernel_rfl
instance : TZ Try.prog 133 true 4 56 (.agg #[(.string ⟨#[]⟩), (.string ⟨#[]⟩), (.string ⟨#[]⟩), (.bool false)]) := ⟨iz133, tz_agg Try.underlying133 rfl⟩
instance : FO Try.prog 133 0 0 1 := ⟨_, _, Try.underlying133, rfl, rfl, iz_size iz9, by decide⟩
instance : FO Try.prog 133 1 1 1 := ⟨_, _, Try.underlying133, rfl, rfl, iz_size iz9, by decide⟩
instance : FO Try.prog 133 2 2 1 := ⟨_, _, Try.underlying133, rfl, rfl, iz_size iz9, by decide⟩
instance : FO Try.prog 133 3 3 1 := ⟨_, _, Try.underlying133, rfl, rfl, iz_size iz4, by decide⟩
instance : FT Try.prog 133 [(0, 1), (1, 1), (2, 1), (3, 1)] := ⟨_, Try.underlying133, .cons (iz_size iz9) (.cons (iz_size iz9) (.cons (iz_size iz9) (.cons (iz_size iz4) (.nil))))⟩
instance : EQ Try.prog 133 [.str, .str, .str, .bool] := ⟨by kernel_rfl, by kernel_rfl, _, Try.underlying133, (.str (by decide) rfl Try.underlying9 (.str (by decide) rfl Try.underlying9 (.str (by decide) rfl Try.underlying9 (.bool (by decide) rfl Try.underlying4 .nil))))⟩
theorem iz134 : (Try.prog.info? 134).map (fun i => (i.zero, i.size, i.bytes)) = some (some (.agg #[(.int .i64 0), (.int .i64 0)]), 2, 16) := by kernel_rfl
instance : TZ Try.prog 134 true 2 16 (.agg #[(.int .i64 0), (.int .i64 0)]) := ⟨iz134, tz_agg Try.underlying134 rfl⟩
instance : FO Try.prog 134 0 0 1 := ⟨_, _, Try.underlying134, rfl, rfl, iz_size iz3, by decide⟩
instance : FO Try.prog 134 1 1 1 := ⟨_, _, Try.underlying134, rfl, rfl, iz_size iz3, by decide⟩
instance : FT Try.prog 134 [(0, 1), (1, 1)] := ⟨_, Try.underlying134, .cons (iz_size iz3) (.cons (iz_size iz3) (.nil))⟩
theorem iz135 : (Try.prog.info? 135).map (fun i => (i.zero, i.size, i.bytes)) = some (some (.agg #[(.int .i64 0), (.int .i64 0)]), 2, 16) := by kernel_rfl
instance : TZ Try.prog 135 true 2 16 (.agg #[(.int .i64 0), (.int .i64 0)]) := ⟨iz135, tz_agg Try.underlying135 rfl⟩
instance : FO Try.prog 135 0 0 1 := ⟨_, _, Try.underlying135, rfl, rfl, iz_size iz3, by decide⟩
instance : FO Try.prog 135 1 1 1 := ⟨_, _, Try.underlying135, rfl, rfl, iz_size iz3, by decide⟩
instance : FT Try.prog 135 [(0, 1), (1, 1)] := ⟨_, Try.underlying135, .cons (iz_size iz3) (.cons (iz_size iz3) (.nil))⟩
instance : EQ Try.prog 135 [.int .i64, .int .i64] := ⟨by kernel_rfl, by kernel_rfl, _, Try.underlying135, (.int (by decide) rfl Try.underlying3 (.int (by decide) rfl Try.underlying3 .nil))⟩
theorem iz136 : (Try.prog.info? 136).map (fun i => (i.zero, i.size, i.bytes)) = some (some (.slice none 0 0), 1, 24) := by kernel_rfl
instance : TI Try.prog 136 (.slice 9) 1 24 (.slice none 0 0) := ⟨Try.underlying136, iz136⟩
instance : TZ Try.prog 136 false 1 24 (.slice none 0 0) := ⟨iz136, tz_agg Try.underlying136 rfl⟩
theorem iz137 : (Try.prog.info? 137).map (fun i => (i.zero, i.size, i.bytes)) = some (some (.agg #[(.slice none 0 0), (.slice none 0 0)]), 2, 48) := by kernel_rfl
instance : TZ Try.prog 137 true 2 48 (.agg #[(.slice none 0 0), (.slice none 0 0)]) := ⟨iz137, tz_agg Try.underlying137 rfl⟩
instance : FO Try.prog 137 0 0 1 := ⟨_, _, Try.underlying137, rfl, rfl, iz_size iz23, by decide⟩
instance : FO Try.prog 137 1 1 1 := ⟨_, _, Try.underlying137, rfl, rfl, iz_size iz23, by decide⟩
instance : FT Try.prog 137 [(0, 1), (1, 1)] := ⟨_, Try.underlying137, .cons (iz_size iz23) (.cons (iz_size iz23) (.nil))⟩
theorem iz138 : (Try.prog.info? 138).map (fun i => (i.zero, i.size, i.bytes)) = some (some (.agg #[(.slice none 0 0), (.slice none 0 0)]), 2, 48) := by kernel_rfl
instance : TZ Try.prog 138 true 2 48 (.agg #[(.slice none 0 0), (.slice none 0 0)]) := ⟨iz138, tz_agg Try.underlying138 rfl⟩
instance : FO Try.prog 138 0 0 1 := ⟨_, _, Try.underlying138, rfl, rfl, iz_size iz23, by decide⟩
instance : FO Try.prog 138 1 1 1 := ⟨_, _, Try.underlying138, rfl, rfl, iz_size iz23, by decide⟩
instance : FT Try.prog 138 [(0, 1), (1, 1)] := ⟨_, Try.underlying138, .cons (iz_size iz23) (.cons (iz_size iz23) (.nil))⟩
theorem iz139 : (Try.prog.info? 139).map (fun i => (i.zero, i.size, i.bytes)) = some (some (.agg #[(.string ⟨#[]⟩), (.slice none 0 0), (.slice none 0 0), (.slice none 0 0), (.int .i64 0)]), 5, 96) := by kernel_rfl
instance : TZ Try.prog 139 true 5 96 (.agg #[(.string ⟨#[]⟩), (.slice none 0 0), (.slice none 0 0), (.slice none 0 0), (.int .i64 0)]) := ⟨iz139, tz_agg Try.underlying139 rfl⟩
instance : FO Try.prog 139 0 0 1 := ⟨_, _, Try.underlying139, rfl, rfl, iz_size iz9, by decide⟩
instance : FO Try.prog 139 1 1 1 := ⟨_, _, Try.underlying139, rfl, rfl, iz_size iz136, by decide⟩
instance : FO Try.prog 139 2 2 2 := ⟨_, _, Try.underlying139, rfl, rfl, iz_size iz138, by decide⟩
instance : FO Try.prog 139 3 4 1 := ⟨_, _, Try.underlying139, rfl, rfl, iz_size iz3, by decide⟩
instance : FT Try.prog 139 [(0, 1), (1, 1), (2, 2), (4, 1)] := ⟨_, Try.underlying139, .cons (iz_size iz9) (.cons (iz_size iz136) (.cons (iz_size iz138) (.cons (iz_size iz3) (.nil))))⟩
theorem iz140 : (Try.prog.info? 140).map (fun i => (i.zero, i.size, i.bytes)) = some (some (.agg #[(.string ⟨#[]⟩), (.slice none 0 0), (.slice none 0 0), (.slice none 0 0), (.int .i64 0)]), 5, 96) := by kernel_rfl
instance : TZ Try.prog 140 true 5 96 (.agg #[(.string ⟨#[]⟩), (.slice none 0 0), (.slice none 0 0), (.slice none 0 0), (.int .i64 0)]) := ⟨iz140, tz_agg Try.underlying140 rfl⟩
instance : FO Try.prog 140 0 0 1 := ⟨_, _, Try.underlying140, rfl, rfl, iz_size iz9, by decide⟩
instance : FO Try.prog 140 1 1 1 := ⟨_, _, Try.underlying140, rfl, rfl, iz_size iz136, by decide⟩
instance : FO Try.prog 140 2 2 2 := ⟨_, _, Try.underlying140, rfl, rfl, iz_size iz138, by decide⟩
instance : FO Try.prog 140 3 4 1 := ⟨_, _, Try.underlying140, rfl, rfl, iz_size iz3, by decide⟩
instance : FT Try.prog 140 [(0, 1), (1, 1), (2, 2), (4, 1)] := ⟨_, Try.underlying140, .cons (iz_size iz9) (.cons (iz_size iz136) (.cons (iz_size iz138) (.cons (iz_size iz3) (.nil))))⟩
theorem iz141 : (Try.prog.info? 141).map (fun i => (i.zero, i.size, i.bytes)) = some (some (.agg #[(.int .i64 0), (.int .i64 0), (.string ⟨#[]⟩), (.bool false)]), 4, 40) := by kernel_rfl
instance : TZ Try.prog 141 true 4 40 (.agg #[(.int .i64 0), (.int .i64 0), (.string ⟨#[]⟩), (.bool false)]) := ⟨iz141, tz_agg Try.underlying141 rfl⟩
instance : FO Try.prog 141 0 0 1 := ⟨_, _, Try.underlying141, rfl, rfl, iz_size iz3, by decide⟩
instance : FO Try.prog 141 1 1 1 := ⟨_, _, Try.underlying141, rfl, rfl, iz_size iz3, by decide⟩
instance : FO Try.prog 141 2 2 1 := ⟨_, _, Try.underlying141, rfl, rfl, iz_size iz9, by decide⟩
instance : FO Try.prog 141 3 3 1 := ⟨_, _, Try.underlying141, rfl, rfl, iz_size iz4, by decide⟩
instance : FT Try.prog 141 [(0, 1), (1, 1), (2, 1), (3, 1)] := ⟨_, Try.underlying141, .cons (iz_size iz3) (.cons (iz_size iz3) (.cons (iz_size iz9) (.cons (iz_size iz4) (.nil))))⟩
theorem iz142 : (Try.prog.info? 142).map (fun i => (i.zero, i.size, i.bytes)) = some (some (.agg #[(.int .i64 0), (.int .i64 0), (.string ⟨#[]⟩), (.bool false)]), 4, 40) := by kernel_rfl
instance : TZ Try.prog 142 true 4 40 (.agg #[(.int .i64 0), (.int .i64 0), (.string ⟨#[]⟩), (.bool false)]) := ⟨iz142, tz_agg Try.underlying142 rfl⟩
instance : FO Try.prog 142 0 0 1 := ⟨_, _, Try.underlying142, rfl, rfl, iz_size iz3, by decide⟩
instance : FO Try.prog 142 1 1 1 := ⟨_, _, Try.underlying142, rfl, rfl, iz_size iz3, by decide⟩
instance : FO Try.prog 142 2 2 1 := ⟨_, _, Try.underlying142, rfl, rfl, iz_size iz9, by decide⟩
instance : FO Try.prog 142 3 3 1 := ⟨_, _, Try.underlying142, rfl, rfl, iz_size iz4, by decide⟩
instance : FT Try.prog 142 [(0, 1), (1, 1), (2, 1), (3, 1)] := ⟨_, Try.underlying142, .cons (iz_size iz3) (.cons (iz_size iz3) (.cons (iz_size iz9) (.cons (iz_size iz4) (.nil))))⟩
instance : EQ Try.prog 142 [.int .i64, .int .i64, .str, .bool] := ⟨by kernel_rfl, by kernel_rfl, _, Try.underlying142, (.int (by decide) rfl Try.underlying3 (.int (by decide) rfl Try.underlying3 (.str (by decide) rfl Try.underlying9 (.bool (by decide) rfl Try.underlying4 .nil))))⟩
instance : FN Try.prog 3 := ⟨_, Try.func3, by kernel_rfl, by kernel_rfl⟩ -- cloister/cloisterlaw21.MeterUnits
instance : FN Try.prog 4 := ⟨_, Try.func4, by kernel_rfl, by kernel_rfl⟩ -- cloister/cloisterlaw21.MeterMore
instance : FN Try.prog 5 := ⟨_, Try.func5, by kernel_rfl, by kernel_rfl⟩ -- cloister/cloisterlaw21.MeterFair
instance : FN Try.prog 6 := ⟨_, Try.func6, by kernel_rfl, by kernel_rfl⟩ -- cloister/cloisterlaw21.MeterRounds
instance : FN Try.prog 7 := ⟨_, Try.func7, by kernel_rfl, by kernel_rfl⟩ -- cloister/cloisterlaw20.AuditHolders
instance : FN Try.prog 8 := ⟨_, Try.func8, by kernel_rfl, by kernel_rfl⟩ -- cloister/cloisterlaw20.AuditLogs
instance : FN Try.prog 9 := ⟨_, Try.func9, by kernel_rfl, by kernel_rfl⟩ -- cloister/meter.Bound
instance : FN Try.prog 10 := ⟨_, Try.func10, by kernel_rfl, by kernel_rfl⟩ -- cloister/cloisterref21.Bound
instance : FN Try.prog 11 := ⟨_, Try.func11, by kernel_rfl, by kernel_rfl⟩ -- cloister/meter.Units
instance : FN Try.prog 12 := ⟨_, Try.func12, by kernel_rfl, by kernel_rfl⟩ -- cloister/cloisterref21.Units
instance : FN Try.prog 13 := ⟨_, Try.func13, by kernel_rfl, by kernel_rfl⟩ -- cloister/cloisterlaw21.sameSteps
instance : FN Try.prog 14 := ⟨_, Try.func14, by kernel_rfl, by kernel_rfl⟩ -- cloister/cloisterlaw21.awake
instance : FN Try.prog 15 := ⟨_, Try.func15, by kernel_rfl, by kernel_rfl⟩ -- cloister/meter.Fair
instance : FN Try.prog 16 := ⟨_, Try.func16, by kernel_rfl, by kernel_rfl⟩ -- cloister/cloisterref21.Fair
instance : FN Try.prog 17 := ⟨_, Try.func17, by kernel_rfl, by kernel_rfl⟩ -- cloister/audit.Holders
instance : FN Try.prog 18 := ⟨_, Try.func18, by kernel_rfl, by kernel_rfl⟩ -- cloister/cloisterref20.Holders
instance : FN Try.prog 19 := ⟨_, Try.func19, by kernel_rfl, by kernel_rfl⟩ -- cloister/audit.Chain
instance : FN Try.prog 20 := ⟨_, Try.func20, by kernel_rfl, by kernel_rfl⟩ -- cloister/cloisterref20.Chain
instance : FN Try.prog 21 := ⟨_, Try.func21, by kernel_rfl, by kernel_rfl⟩ -- cloister/audit.Check
instance : FN Try.prog 22 := ⟨_, Try.func22, by kernel_rfl, by kernel_rfl⟩ -- cloister/cloisterref20.Check
instance : FN Try.prog 23 := ⟨_, Try.func23, by kernel_rfl, by kernel_rfl⟩ -- cloister/cloisterref01.Same
instance : FN Try.prog 24 := ⟨_, Try.func24, by kernel_rfl, by kernel_rfl⟩ -- cloister/cloisterref17.Same
instance : FN Try.prog 25 := ⟨_, Try.func25, by kernel_rfl, by kernel_rfl⟩ -- cloister/cloisterlaw20.awake
instance : FN Try.prog 26 := ⟨_, Try.func26, by kernel_rfl, by kernel_rfl⟩ -- cloister/audit.Last
instance : FN Try.prog 27 := ⟨_, Try.func27, by kernel_rfl, by kernel_rfl⟩ -- cloister/cloisterref20.Last
instance : FN Try.prog 28 := ⟨_, Try.func28, by kernel_rfl, by kernel_rfl⟩ -- cloister/audit.Changes
instance : FN Try.prog 29 := ⟨_, Try.func29, by kernel_rfl, by kernel_rfl⟩ -- cloister/cloisterref20.Changes
instance : FN Try.prog 30 := ⟨_, Try.func30, by kernel_rfl, by kernel_rfl⟩ -- cloister/audit.Foreign
instance : FN Try.prog 31 := ⟨_, Try.func31, by kernel_rfl, by kernel_rfl⟩ -- cloister/cloisterref20.SameChange
instance : FN Try.prog 32 := ⟨_, Try.func32, by kernel_rfl, by kernel_rfl⟩ -- cloister/cloisterref19.SameUses
instance : FN Try.prog 33 := ⟨_, Try.func33, by kernel_rfl, by kernel_rfl⟩ -- cloister/cloisterref20.Foreign
instance : FN Try.prog 34 := ⟨_, Try.func34, by kernel_rfl, by kernel_rfl⟩ -- cloister/meter.may
instance : FN Try.prog 35 := ⟨_, Try.func35, by kernel_rfl, by kernel_rfl⟩ -- cloister/cloisterref21.may
instance : FN Try.prog 36 := ⟨_, Try.func36, by kernel_rfl, by kernel_rfl⟩ -- cloister/set.Of[int]
instance : FN Try.prog 37 := ⟨_, Try.func37, by kernel_rfl, by kernel_rfl⟩ -- cloister/cloisterref01.Of
instance : FN Try.prog 38 := ⟨_, Try.func38, by kernel_rfl, by kernel_rfl⟩ -- cloister/audit.firsts
instance : FN Try.prog 39 := ⟨_, Try.func39, by kernel_rfl, by kernel_rfl⟩ -- slices.Reverse[[]cloister/api.Grant,cloister/api.Grant]
instance : FN Try.prog 40 := ⟨_, Try.func40, by kernel_rfl, by kernel_rfl⟩ -- cloister/cloisterref20.first
instance : FN Try.prog 41 := ⟨_, Try.func41, by kernel_rfl, by kernel_rfl⟩ -- cloister/cloisterref20.had
instance : FN Try.prog 42 := ⟨_, Try.func42, by kernel_rfl, by kernel_rfl⟩ -- slices.Backward[[]cloister/api.Change,cloister/api.Change]
instance : FN Try.prog 43 := ⟨_, Try.func43, by kernel_rfl, by kernel_rfl⟩ -- slices.Equal[[]int,int]
instance : FN Try.prog 44 := ⟨_, Try.func44, by kernel_rfl, by kernel_rfl⟩ -- slices.Clone[[]int,int]
instance : FN Try.prog 45 := ⟨_, Try.func45, by kernel_rfl, by kernel_rfl⟩ -- slices.ContainsFunc[[]int,int]
instance : FN Try.prog 46 := ⟨_, Try.func46, by kernel_rfl, by kernel_rfl⟩ -- cloister/audit.Foreign$1
instance : FN Try.prog 47 := ⟨_, Try.func47, by kernel_rfl, by kernel_rfl⟩ -- slices.Sort[[]int,int]
instance : FN Try.prog 48 := ⟨_, Try.func48, by kernel_rfl, by kernel_rfl⟩ -- slices.Compact[[]int,int]
instance : FN Try.prog 49 := ⟨_, Try.func49, by kernel_rfl, by kernel_rfl⟩ -- cloister/cloisterref01.Has
instance : FN Try.prog 50 := ⟨_, Try.func50, by kernel_rfl, by kernel_rfl⟩ -- slices.Backward[[]cloister/api.Change,cloister/api.Change]$1
instance : FN Try.prog 51 := ⟨_, Try.func51, by kernel_rfl, by kernel_rfl⟩ -- slices.IndexFunc[[]int,int]
instance : FN Try.prog 52 := ⟨_, Try.func52, by kernel_rfl, by kernel_rfl⟩ -- slices.pdqsortOrdered[int]
instance : FN Try.prog 53 := ⟨_, Try.func53, by kernel_rfl, by kernel_rfl⟩ -- math/bits.Len
instance : FN Try.prog 54 := ⟨_, Try.func54, by kernel_rfl, by kernel_rfl⟩ -- slices.insertionSortOrdered[int]
instance : FN Try.prog 55 := ⟨_, Try.func55, by kernel_rfl, by kernel_rfl⟩ -- slices.heapSortOrdered[int]
instance : FN Try.prog 56 := ⟨_, Try.func56, by kernel_rfl, by kernel_rfl⟩ -- slices.breakPatternsOrdered[int]
instance : FN Try.prog 57 := ⟨_, Try.func57, by kernel_rfl, by kernel_rfl⟩ -- slices.choosePivotOrdered[int]
instance : FN Try.prog 58 := ⟨_, Try.func58, by kernel_rfl, by kernel_rfl⟩ -- slices.reverseRangeOrdered[int]
instance : FN Try.prog 59 := ⟨_, Try.func59, by kernel_rfl, by kernel_rfl⟩ -- slices.partialInsertionSortOrdered[int]
instance : FN Try.prog 60 := ⟨_, Try.func60, by kernel_rfl, by kernel_rfl⟩ -- cmp.Less[int]
instance : FN Try.prog 61 := ⟨_, Try.func61, by kernel_rfl, by kernel_rfl⟩ -- slices.partitionEqualOrdered[int]
instance : FN Try.prog 62 := ⟨_, Try.func62, by kernel_rfl, by kernel_rfl⟩ -- slices.partitionOrdered[int]
instance : FN Try.prog 63 := ⟨_, Try.func63, by kernel_rfl, by kernel_rfl⟩ -- math/bits.Len32
instance : FN Try.prog 64 := ⟨_, Try.func64, by kernel_rfl, by kernel_rfl⟩ -- math/bits.Len64
instance : FN Try.prog 65 := ⟨_, Try.func65, by kernel_rfl, by kernel_rfl⟩ -- slices.siftDownOrdered[int]
instance : FN Try.prog 66 := ⟨_, Try.func66, by kernel_rfl, by kernel_rfl⟩ -- slices.nextPowerOfTwo
instance : FN Try.prog 67 := ⟨_, Try.func67, by kernel_rfl, by kernel_rfl⟩ -- (*slices.xorshift).Next
instance : FN Try.prog 68 := ⟨_, Try.func68, by kernel_rfl, by kernel_rfl⟩ -- slices.medianAdjacentOrdered[int]
instance : FN Try.prog 69 := ⟨_, Try.func69, by kernel_rfl, by kernel_rfl⟩ -- slices.medianOrdered[int]
instance : FN Try.prog 70 := ⟨_, Try.func70, by kernel_rfl, by kernel_rfl⟩ -- cmp.isNaN[int]
instance : FN Try.prog 71 := ⟨_, Try.func71, by kernel_rfl, by kernel_rfl⟩ -- slices.order2Ordered[int]
end Go.Proofs.Ytibmabidjacjlaa.L
