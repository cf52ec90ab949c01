/-
  Facts about the program's types and functions that the walks lean on.
-/
import Derived.Test.YtcdpkgmkckfonaaAmMap
import Derived.Test.YtcdpkgmkckfonaaRows
set_option linter.unusedVariables false
set_option linter.unusedSimpArgs false
namespace Go.Proofs.Ytcdpkgmkckfonaa
open Go Go.Am

/-- Who shares memory with its caller, and who hands its result over. -/
def cfg : Cfg := { own := fun f => [].contains f, keepNil := fun f => [].contains f, shared := fun f => [56, 84, 85].contains f, ext := fun _ _ => none, wr := fun a b => if a == 13 && b == 15 then [2, 8] else [], strict := fun a b => (a == 13 && b == 15) || (a == 2 && b == 31) || (a == 3 && b == 9) || (a == 8 && b == 6) || (a == 9 && b == 4) }
@[go_sem] theorem cfg_deep : cfg.deep = false := by kernel_rfl
@[go_sem] theorem cfg_wr_13_15 : cfg.wr 13 15 = [2, 8] := rfl
@[go_sem] theorem cfg_wr_2_31 : cfg.wr 2 31 = [] := rfl
@[go_sem] theorem cfg_wr_3_9 : cfg.wr 3 9 = [] := rfl
@[go_sem] theorem cfg_wr_8_6 : cfg.wr 8 6 = [] := rfl
@[go_sem] theorem cfg_wr_9_4 : cfg.wr 9 4 = [] := rfl
@[go_sem] theorem cfg_strict (a b : Nat) : cfg.strict a b = ((a == 13 && b == 15) || (a == 2 && b == 31) || (a == 3 && b == 9) || (a == 8 && b == 6) || (a == 9 && b == 4)) := rfl
@[go_sem] theorem und3 : Try.prog.underlying 3 = some (TypeDesc.int IntKind.i64) := Try.underlying3
@[go_sem] theorem isz3 : isz Try.prog 3 = some 1 := by kernel_rfl
@[go_sem] theorem ibytes3 : ibytes Try.prog 3 = some 8 := by kernel_rfl
@[go_sem] theorem izero3 : izero Try.prog 3 = some (I 0) := by kernel_rfl
@[go_sem] theorem und4 : Try.prog.underlying 4 = some TypeDesc.bool := Try.underlying4
@[go_sem] theorem isz4 : isz Try.prog 4 = some 1 := by kernel_rfl
@[go_sem] theorem ibytes4 : ibytes Try.prog 4 = some 1 := by kernel_rfl
@[go_sem] theorem izero4 : izero Try.prog 4 = some (.bool false) := by kernel_rfl
@[go_sem] theorem und22 : Try.prog.underlying 22 = some (TypeDesc.slice 31) := Try.underlying22
@[go_sem] theorem isz22 : isz Try.prog 22 = some 1 := by kernel_rfl
@[go_sem] theorem ibytes22 : ibytes Try.prog 22 = some 24 := by kernel_rfl
@[go_sem] theorem izero22 : izero Try.prog 22 = some (.nil) := by kernel_rfl
@[go_sem] theorem isz23 : isz Try.prog 23 = some 3 := by kernel_rfl
@[go_sem] theorem ibytes23 : ibytes Try.prog 23 = some 24 := by kernel_rfl
@[go_sem] theorem izero23 : izero Try.prog 23 = some (.agg [I 0, I 0, I 0]) := by kernel_rfl
@[go_sem] theorem und25 : Try.prog.underlying 25 = some (TypeDesc.struct #[{ name := "A", type := 22, offset := 0, embedded := false, tag := "", pkgPath := "", byteOffset := 0 }, { name := "B", type := 22, offset := 1, embedded := false, tag := "", pkgPath := "", byteOffset := 24 }]) := Try.underlying25
@[go_sem] theorem isz25 : isz Try.prog 25 = some 2 := by kernel_rfl
@[go_sem] theorem ibytes25 : ibytes Try.prog 25 = some 48 := by kernel_rfl
@[go_sem] theorem izero25 : izero Try.prog 25 = some (.agg [.nil, .nil]) := by kernel_rfl
@[go_sem] theorem isz28 : isz Try.prog 28 = some 2 := by kernel_rfl
@[go_sem] theorem ibytes28 : ibytes Try.prog 28 = some 16 := by kernel_rfl
@[go_sem] theorem izero28 : izero Try.prog 28 = some (.agg [I 0, I 0]) := by kernel_rfl
@[go_sem] theorem und31 : Try.prog.underlying 31 = some (TypeDesc.slice 3) := Try.underlying31
@[go_sem] theorem isz31 : isz Try.prog 31 = some 1 := by kernel_rfl
@[go_sem] theorem ibytes31 : ibytes Try.prog 31 = some 24 := by kernel_rfl
@[go_sem] theorem izero31 : izero Try.prog 31 = some (.nil) := by kernel_rfl
@[go_sem] theorem isz36 : isz Try.prog 36 = some 1 := by kernel_rfl
@[go_sem] theorem ibytes36 : ibytes Try.prog 36 = some 8 := by kernel_rfl
@[go_sem] theorem izero36 : izero Try.prog 36 = some (I 0) := by kernel_rfl
@[go_sem] theorem isz39 : isz Try.prog 39 = some 1 := by kernel_rfl
@[go_sem] theorem ibytes39 : ibytes Try.prog 39 = some 24 := by kernel_rfl
@[go_sem] theorem izero39 : izero Try.prog 39 = some (.nil) := by kernel_rfl
@[go_sem] theorem und48 : Try.prog.underlying 48 = some (TypeDesc.slice 55) := Try.underlying48
@[go_sem] theorem isz48 : isz Try.prog 48 = some 1 := by kernel_rfl
@[go_sem] theorem ibytes48 : ibytes Try.prog 48 = some 24 := by kernel_rfl
@[go_sem] theorem izero48 : izero Try.prog 48 = some (.nil) := by kernel_rfl
@[go_sem] theorem und55 : Try.prog.underlying 55 = some (TypeDesc.array 2 3) := Try.underlying55
@[go_sem] theorem isz55 : isz Try.prog 55 = some 2 := by kernel_rfl
@[go_sem] theorem ibytes55 : ibytes Try.prog 55 = some 16 := by kernel_rfl
@[go_sem] theorem izero55 : izero Try.prog 55 = some (.agg [I 0, I 0]) := by kernel_rfl
@[go_sem] theorem isz63 : isz Try.prog 63 = some 2 := by kernel_rfl
@[go_sem] theorem ibytes63 : ibytes Try.prog 63 = some 48 := by kernel_rfl
@[go_sem] theorem izero63 : izero Try.prog 63 = some (.agg [.nil, .nil]) := by kernel_rfl
@[go_sem] theorem isz66 : isz Try.prog 66 = some 1 := by kernel_rfl
@[go_sem] theorem ibytes66 : ibytes Try.prog 66 = some 24 := by kernel_rfl
@[go_sem] theorem izero66 : izero Try.prog 66 = some (.nil) := by kernel_rfl
@[go_sem] theorem isz73 : isz Try.prog 73 = some 1 := by kernel_rfl
@[go_sem] theorem ibytes73 : ibytes Try.prog 73 = some 8 := by kernel_rfl
@[go_sem] theorem izero73 : izero Try.prog 73 = some (.int .u64 0) := by kernel_rfl
@[go_sem] theorem und76 : Try.prog.underlying 76 = some (TypeDesc.struct #[{ name := "num", type := 31, offset := 0, embedded := false, tag := "", pkgPath := "turndown/nash", byteOffset := 0 }, { name := "den", type := 3, offset := 1, embedded := false, tag := "", pkgPath := "turndown/nash", byteOffset := 24 }]) := Try.underlying76
@[go_sem] theorem isz76 : isz Try.prog 76 = some 2 := by kernel_rfl
@[go_sem] theorem ibytes76 : ibytes Try.prog 76 = some 32 := by kernel_rfl
@[go_sem] theorem izero76 : izero Try.prog 76 = some (.agg [.nil, I 0]) := by kernel_rfl
@[go_sem] theorem isz89 : isz Try.prog 89 = some 1 := by kernel_rfl
@[go_sem] theorem ibytes89 : ibytes Try.prog 89 = some 8 := by kernel_rfl
@[go_sem] theorem izero89 : izero Try.prog 89 = some (.nilfn) := by kernel_rfl
@[go_sem] theorem isz97 : isz Try.prog 97 = some 1 := by kernel_rfl
@[go_sem] theorem ibytes97 : ibytes Try.prog 97 = some 8 := by kernel_rfl
@[go_sem] theorem izero97 : izero Try.prog 97 = some (.nilfn) := by kernel_rfl
@[go_sem] theorem isz98 : isz Try.prog 98 = some 1 := by kernel_rfl
@[go_sem] theorem ibytes98 : ibytes Try.prog 98 = some 8 := by kernel_rfl
@[go_sem] theorem izero98 : izero Try.prog 98 = some (.nilfn) := by kernel_rfl
@[go_sem] theorem und101 : Try.prog.underlying 101 = some (TypeDesc.array 8 4) := Try.underlying101
@[go_sem] theorem isz101 : isz Try.prog 101 = some 8 := by kernel_rfl
@[go_sem] theorem ibytes101 : ibytes Try.prog 101 = some 8 := by kernel_rfl
@[go_sem] theorem izero101 : izero Try.prog 101 = some (.agg [.bool false, .bool false, .bool false, .bool false, .bool false, .bool false, .bool false, .bool false]) := by kernel_rfl
@[go_sem] theorem und103 : Try.prog.underlying 103 = some (TypeDesc.struct #[{ name := "shares", type := 76, offset := 0, embedded := true, tag := "", pkgPath := "turndown/nash", byteOffset := 0 }, { name := "labels", type := 101, offset := 2, embedded := false, tag := "", pkgPath := "turndown/nash", byteOffset := 32 }]) := Try.underlying103
@[go_sem] theorem isz103 : isz Try.prog 103 = some 10 := by kernel_rfl
@[go_sem] theorem ibytes103 : ibytes Try.prog 103 = some 40 := by kernel_rfl
@[go_sem] theorem izero103 : izero Try.prog 103 = some (.agg [.nil, I 0, .bool false, .bool false, .bool false, .bool false, .bool false, .bool false, .bool false, .bool false]) := by kernel_rfl
@[go_sem] theorem und108 : Try.prog.underlying 108 = some (TypeDesc.func #[3] #[3] false) := Try.underlying108
@[go_sem] theorem isz108 : isz Try.prog 108 = some 1 := by kernel_rfl
@[go_sem] theorem ibytes108 : ibytes Try.prog 108 = some 8 := by kernel_rfl
@[go_sem] theorem izero108 : izero Try.prog 108 = some (.nilfn) := by kernel_rfl
@[go_sem] theorem und112 : Try.prog.underlying 112 = some (TypeDesc.func #[103] #[4] false) := Try.underlying112
@[go_sem] theorem isz112 : isz Try.prog 112 = some 1 := by kernel_rfl
@[go_sem] theorem ibytes112 : ibytes Try.prog 112 = some 8 := by kernel_rfl
@[go_sem] theorem izero112 : izero Try.prog 112 = some (.nilfn) := by kernel_rfl
@[go_sem] theorem isz113 : isz Try.prog 113 = some 1 := by kernel_rfl
@[go_sem] theorem ibytes113 : ibytes Try.prog 113 = some 8 := by kernel_rfl
@[go_sem] theorem izero113 : izero Try.prog 113 = some (.nilfn) := by kernel_rfl
@[go_sem] theorem isz114 : isz Try.prog 114 = some 1 := by kernel_rfl
@[go_sem] theorem ibytes114 : ibytes Try.prog 114 = some 8 := by kernel_rfl
@[go_sem] theorem izero114 : izero Try.prog 114 = some (.nilfn) := by kernel_rfl
@[go_sem] theorem isz118 : isz Try.prog 118 = some 1 := by kernel_rfl
@[go_sem] theorem ibytes118 : ibytes Try.prog 118 = some 8 := by kernel_rfl
@[go_sem] theorem izero118 : izero Try.prog 118 = some (.nilfn) := by kernel_rfl
@[go_sem] theorem und119 : Try.prog.underlying 119 = some (TypeDesc.array 5 3) := Try.underlying119
@[go_sem] theorem isz119 : isz Try.prog 119 = some 5 := by kernel_rfl
@[go_sem] theorem ibytes119 : ibytes Try.prog 119 = some 40 := by kernel_rfl
@[go_sem] theorem izero119 : izero Try.prog 119 = some (.agg [I 0, I 0, I 0, I 0, I 0]) := by kernel_rfl
@[go_sem] theorem und121 : Try.prog.underlying 121 = some (TypeDesc.array 4 119) := Try.underlying121
@[go_sem] theorem isz121 : isz Try.prog 121 = some 20 := by kernel_rfl
@[go_sem] theorem ibytes121 : ibytes Try.prog 121 = some 160 := by kernel_rfl
@[go_sem] theorem izero121 : izero Try.prog 121 = some (.agg [I 0, I 0, I 0, I 0, I 0, I 0, I 0, I 0, I 0, I 0, I 0, I 0, I 0, I 0, I 0, I 0, I 0, I 0, I 0, I 0]) := by kernel_rfl
@[go_sem] theorem und122 : Try.prog.underlying 122 = some (TypeDesc.array 4 4) := Try.underlying122
@[go_sem] theorem isz122 : isz Try.prog 122 = some 4 := by kernel_rfl
@[go_sem] theorem ibytes122 : ibytes Try.prog 122 = some 4 := by kernel_rfl
@[go_sem] theorem izero122 : izero Try.prog 122 = some (.agg [.bool false, .bool false, .bool false, .bool false]) := by kernel_rfl
@[go_sem] theorem isz130 : isz Try.prog 130 = some 1 := by kernel_rfl
@[go_sem] theorem ibytes130 : ibytes Try.prog 130 = some 8 := by kernel_rfl
@[go_sem] theorem izero130 : izero Try.prog 130 = some (.nilfn) := by kernel_rfl
@[go_sem] theorem own3 : cfg.own 3 = false := rfl
@[go_sem] theorem kn3 : cfg.keepNil 3 = false := rfl
@[go_sem] theorem shr3 : cfg.shared 3 = false := by kernel_rfl
@[go_sem] theorem own4 : cfg.own 4 = false := rfl
@[go_sem] theorem kn4 : cfg.keepNil 4 = false := rfl
@[go_sem] theorem shr4 : cfg.shared 4 = false := by kernel_rfl
@[go_sem] theorem own5 : cfg.own 5 = false := rfl
@[go_sem] theorem kn5 : cfg.keepNil 5 = false := rfl
@[go_sem] theorem shr5 : cfg.shared 5 = false := by kernel_rfl
@[go_sem] theorem own6 : cfg.own 6 = false := rfl
@[go_sem] theorem kn6 : cfg.keepNil 6 = false := rfl
@[go_sem] theorem shr6 : cfg.shared 6 = false := by kernel_rfl
@[go_sem] theorem own7 : cfg.own 7 = false := rfl
@[go_sem] theorem kn7 : cfg.keepNil 7 = false := rfl
@[go_sem] theorem shr7 : cfg.shared 7 = false := by kernel_rfl
@[go_sem] theorem own8 : cfg.own 8 = false := rfl
@[go_sem] theorem kn8 : cfg.keepNil 8 = false := rfl
@[go_sem] theorem shr8 : cfg.shared 8 = false := by kernel_rfl
@[go_sem] theorem own9 : cfg.own 9 = false := rfl
@[go_sem] theorem kn9 : cfg.keepNil 9 = false := rfl
@[go_sem] theorem shr9 : cfg.shared 9 = false := by kernel_rfl
@[go_sem] theorem own10 : cfg.own 10 = false := rfl
@[go_sem] theorem kn10 : cfg.keepNil 10 = false := rfl
@[go_sem] theorem shr10 : cfg.shared 10 = false := by kernel_rfl
@[go_sem] theorem own11 : cfg.own 11 = false := rfl
@[go_sem] theorem kn11 : cfg.keepNil 11 = false := rfl
@[go_sem] theorem shr11 : cfg.shared 11 = false := by kernel_rfl
@[go_sem] theorem own12 : cfg.own 12 = false := rfl
@[go_sem] theorem kn12 : cfg.keepNil 12 = false := rfl
@[go_sem] theorem shr12 : cfg.shared 12 = false := by kernel_rfl
@[go_sem] theorem own13 : cfg.own 13 = false := rfl
@[go_sem] theorem kn13 : cfg.keepNil 13 = false := rfl
@[go_sem] theorem shr13 : cfg.shared 13 = false := by kernel_rfl
@[go_sem] theorem own14 : cfg.own 14 = false := rfl
@[go_sem] theorem kn14 : cfg.keepNil 14 = false := rfl
@[go_sem] theorem shr14 : cfg.shared 14 = false := by kernel_rfl
theorem ok15 : funcOk cfg Try.f15 (Try.f15.body.getD .skip) = true := by kernel_rfl
@[go_sem] theorem own15 : cfg.own 15 = false := rfl
@[go_sem] theorem kn15 : cfg.keepNil 15 = false := rfl
@[go_sem] theorem shr15 : cfg.shared 15 = false := by kernel_rfl
@[go_sem] theorem own16 : cfg.own 16 = false := rfl
@[go_sem] theorem kn16 : cfg.keepNil 16 = false := rfl
@[go_sem] theorem shr16 : cfg.shared 16 = false := by kernel_rfl
@[go_sem] theorem own17 : cfg.own 17 = false := rfl
@[go_sem] theorem kn17 : cfg.keepNil 17 = false := rfl
@[go_sem] theorem shr17 : cfg.shared 17 = false := by kernel_rfl
@[go_sem] theorem own18 : cfg.own 18 = false := rfl
@[go_sem] theorem kn18 : cfg.keepNil 18 = false := rfl
@[go_sem] theorem shr18 : cfg.shared 18 = false := by kernel_rfl
theorem ok19 : funcOk cfg Try.f19 (Try.f19.body.getD .skip) = true := by kernel_rfl
@[go_sem] theorem own19 : cfg.own 19 = false := rfl
@[go_sem] theorem kn19 : cfg.keepNil 19 = false := rfl
@[go_sem] theorem shr19 : cfg.shared 19 = false := by kernel_rfl
@[go_sem] theorem own20 : cfg.own 20 = false := rfl
@[go_sem] theorem kn20 : cfg.keepNil 20 = false := rfl
@[go_sem] theorem shr20 : cfg.shared 20 = false := by kernel_rfl
@[go_sem] theorem own21 : cfg.own 21 = false := rfl
@[go_sem] theorem kn21 : cfg.keepNil 21 = false := rfl
@[go_sem] theorem shr21 : cfg.shared 21 = false := by kernel_rfl
theorem ok22 : funcOk cfg Try.f22 (Try.f22.body.getD .skip) = true := by kernel_rfl
@[go_sem] theorem own22 : cfg.own 22 = false := rfl
@[go_sem] theorem kn22 : cfg.keepNil 22 = false := rfl
@[go_sem] theorem shr22 : cfg.shared 22 = false := by kernel_rfl
@[go_sem] theorem own23 : cfg.own 23 = false := rfl
@[go_sem] theorem kn23 : cfg.keepNil 23 = false := rfl
@[go_sem] theorem shr23 : cfg.shared 23 = false := by kernel_rfl
@[go_sem] theorem own24 : cfg.own 24 = false := rfl
@[go_sem] theorem kn24 : cfg.keepNil 24 = false := rfl
@[go_sem] theorem shr24 : cfg.shared 24 = false := by kernel_rfl
theorem ok25 : funcOk cfg Try.f25 (Try.f25.body.getD .skip) = true := by kernel_rfl
@[go_sem] theorem own25 : cfg.own 25 = false := rfl
@[go_sem] theorem kn25 : cfg.keepNil 25 = false := rfl
@[go_sem] theorem shr25 : cfg.shared 25 = false := by kernel_rfl
theorem ok26 : funcOk cfg Try.f26 (Try.f26.body.getD .skip) = true := by kernel_rfl
@[go_sem] theorem own26 : cfg.own 26 = false := rfl
@[go_sem] theorem kn26 : cfg.keepNil 26 = false := rfl
@[go_sem] theorem shr26 : cfg.shared 26 = false := by kernel_rfl
theorem ok27 : funcOk cfg Try.f27 (Try.f27.body.getD .skip) = true := by kernel_rfl
@[go_sem] theorem own27 : cfg.own 27 = false := rfl
@[go_sem] theorem kn27 : cfg.keepNil 27 = false := rfl
@[go_sem] theorem shr27 : cfg.shared 27 = false := by kernel_rfl
theorem ok29 : funcOk cfg Try.f29 (Try.f29.body.getD .skip) = true := by kernel_rfl
@[go_sem] theorem own29 : cfg.own 29 = false := rfl
@[go_sem] theorem kn29 : cfg.keepNil 29 = false := rfl
@[go_sem] theorem shr29 : cfg.shared 29 = false := by kernel_rfl
theorem ok30 : funcOk cfg Try.f30 (Try.f30.body.getD .skip) = true := by kernel_rfl
@[go_sem] theorem own30 : cfg.own 30 = false := rfl
@[go_sem] theorem kn30 : cfg.keepNil 30 = false := rfl
@[go_sem] theorem shr30 : cfg.shared 30 = false := by kernel_rfl
@[go_sem] theorem own31 : cfg.own 31 = false := rfl
@[go_sem] theorem kn31 : cfg.keepNil 31 = false := rfl
@[go_sem] theorem shr31 : cfg.shared 31 = false := by kernel_rfl
@[go_sem] theorem own32 : cfg.own 32 = false := rfl
@[go_sem] theorem kn32 : cfg.keepNil 32 = false := rfl
@[go_sem] theorem shr32 : cfg.shared 32 = false := by kernel_rfl
@[go_sem] theorem own33 : cfg.own 33 = false := rfl
@[go_sem] theorem kn33 : cfg.keepNil 33 = false := rfl
@[go_sem] theorem shr33 : cfg.shared 33 = false := by kernel_rfl
@[go_sem] theorem own34 : cfg.own 34 = false := rfl
@[go_sem] theorem kn34 : cfg.keepNil 34 = false := rfl
@[go_sem] theorem shr34 : cfg.shared 34 = false := by kernel_rfl
@[go_sem] theorem own35 : cfg.own 35 = false := rfl
@[go_sem] theorem kn35 : cfg.keepNil 35 = false := rfl
@[go_sem] theorem shr35 : cfg.shared 35 = false := by kernel_rfl
@[go_sem] theorem own36 : cfg.own 36 = false := rfl
@[go_sem] theorem kn36 : cfg.keepNil 36 = false := rfl
@[go_sem] theorem shr36 : cfg.shared 36 = false := by kernel_rfl
@[go_sem] theorem own37 : cfg.own 37 = false := rfl
@[go_sem] theorem kn37 : cfg.keepNil 37 = false := rfl
@[go_sem] theorem shr37 : cfg.shared 37 = false := by kernel_rfl
@[go_sem] theorem own38 : cfg.own 38 = false := rfl
@[go_sem] theorem kn38 : cfg.keepNil 38 = false := rfl
@[go_sem] theorem shr38 : cfg.shared 38 = false := by kernel_rfl
@[go_sem] theorem own39 : cfg.own 39 = false := rfl
@[go_sem] theorem kn39 : cfg.keepNil 39 = false := rfl
@[go_sem] theorem shr39 : cfg.shared 39 = false := by kernel_rfl
theorem ok40 : funcOk cfg Try.f40 (Try.f40.body.getD .skip) = true := by kernel_rfl
@[go_sem] theorem own40 : cfg.own 40 = false := rfl
@[go_sem] theorem kn40 : cfg.keepNil 40 = false := rfl
@[go_sem] theorem shr40 : cfg.shared 40 = false := by kernel_rfl
@[go_sem] theorem own42 : cfg.own 42 = false := rfl
@[go_sem] theorem kn42 : cfg.keepNil 42 = false := rfl
@[go_sem] theorem shr42 : cfg.shared 42 = false := by kernel_rfl
@[go_sem] theorem own43 : cfg.own 43 = false := rfl
@[go_sem] theorem kn43 : cfg.keepNil 43 = false := rfl
@[go_sem] theorem shr43 : cfg.shared 43 = false := by kernel_rfl
@[go_sem] theorem own45 : cfg.own 45 = false := rfl
@[go_sem] theorem kn45 : cfg.keepNil 45 = false := rfl
@[go_sem] theorem shr45 : cfg.shared 45 = false := by kernel_rfl
@[go_sem] theorem own46 : cfg.own 46 = false := rfl
@[go_sem] theorem kn46 : cfg.keepNil 46 = false := rfl
@[go_sem] theorem shr46 : cfg.shared 46 = false := by kernel_rfl
@[go_sem] theorem own47 : cfg.own 47 = false := rfl
@[go_sem] theorem kn47 : cfg.keepNil 47 = false := rfl
@[go_sem] theorem shr47 : cfg.shared 47 = false := by kernel_rfl
@[go_sem] theorem own48 : cfg.own 48 = false := rfl
@[go_sem] theorem kn48 : cfg.keepNil 48 = false := rfl
@[go_sem] theorem shr48 : cfg.shared 48 = false := by kernel_rfl
theorem ok49 : funcOk cfg Try.f49 (Try.f49.body.getD .skip) = true := by kernel_rfl
@[go_sem] theorem own49 : cfg.own 49 = false := rfl
@[go_sem] theorem kn49 : cfg.keepNil 49 = false := rfl
@[go_sem] theorem shr49 : cfg.shared 49 = false := by kernel_rfl
theorem ok50 : funcOk cfg Try.f50 (Try.f50.body.getD .skip) = true := by kernel_rfl
@[go_sem] theorem own50 : cfg.own 50 = false := rfl
@[go_sem] theorem kn50 : cfg.keepNil 50 = false := rfl
@[go_sem] theorem shr50 : cfg.shared 50 = false := by kernel_rfl
theorem ok51 : funcOk cfg Try.f51 (Try.f51.body.getD .skip) = true := by kernel_rfl
@[go_sem] theorem own51 : cfg.own 51 = false := rfl
@[go_sem] theorem kn51 : cfg.keepNil 51 = false := rfl
@[go_sem] theorem shr51 : cfg.shared 51 = false := by kernel_rfl
theorem ok52 : funcOk cfg Try.f52 (Try.f52.body.getD .skip) = true := by kernel_rfl
@[go_sem] theorem own52 : cfg.own 52 = false := rfl
@[go_sem] theorem kn52 : cfg.keepNil 52 = false := rfl
@[go_sem] theorem shr52 : cfg.shared 52 = false := by kernel_rfl
theorem ok53 : funcOk cfg Try.f53 (Try.f53.body.getD .skip) = true := by kernel_rfl
@[go_sem] theorem own53 : cfg.own 53 = false := rfl
@[go_sem] theorem kn53 : cfg.keepNil 53 = false := rfl
@[go_sem] theorem shr53 : cfg.shared 53 = false := by kernel_rfl
theorem ok54 : funcOk cfg Try.f54 (Try.f54.body.getD .skip) = true := by kernel_rfl
@[go_sem] theorem own54 : cfg.own 54 = false := rfl
@[go_sem] theorem kn54 : cfg.keepNil 54 = false := rfl
@[go_sem] theorem shr54 : cfg.shared 54 = false := by kernel_rfl
theorem ok55 : funcOk cfg Try.f55 (Try.f55.body.getD .skip) = true := by kernel_rfl
@[go_sem] theorem own55 : cfg.own 55 = false := rfl
@[go_sem] theorem kn55 : cfg.keepNil 55 = false := rfl
@[go_sem] theorem shr55 : cfg.shared 55 = false := by kernel_rfl
theorem ok56 : funcOk cfg Try.f56 (Try.f56.body.getD .skip) = true := by kernel_rfl
@[go_sem] theorem own56 : cfg.own 56 = false := rfl
@[go_sem] theorem kn56 : cfg.keepNil 56 = false := rfl
@[go_sem] theorem shr56 : cfg.shared 56 = true := by kernel_rfl
theorem ok57 : funcOk cfg Try.f57 (Try.f57.body.getD .skip) = true := by kernel_rfl
@[go_sem] theorem own57 : cfg.own 57 = false := rfl
@[go_sem] theorem kn57 : cfg.keepNil 57 = false := rfl
@[go_sem] theorem shr57 : cfg.shared 57 = false := by kernel_rfl
theorem ok58 : funcOk cfg Try.f58 (Try.f58.body.getD .skip) = true := by kernel_rfl
@[go_sem] theorem own58 : cfg.own 58 = false := rfl
@[go_sem] theorem kn58 : cfg.keepNil 58 = false := rfl
@[go_sem] theorem shr58 : cfg.shared 58 = false := by kernel_rfl
theorem ok59 : funcOk cfg Try.f59 (Try.f59.body.getD .skip) = true := by kernel_rfl
@[go_sem] theorem own59 : cfg.own 59 = false := rfl
@[go_sem] theorem kn59 : cfg.keepNil 59 = false := rfl
@[go_sem] theorem shr59 : cfg.shared 59 = false := by kernel_rfl
theorem ok60 : funcOk cfg Try.f60 (Try.f60.body.getD .skip) = true := by kernel_rfl
@[go_sem] theorem own60 : cfg.own 60 = false := rfl
@[go_sem] theorem kn60 : cfg.keepNil 60 = false := rfl
@[go_sem] theorem shr60 : cfg.shared 60 = false := by kernel_rfl
theorem ok61 : funcOk cfg Try.f61 (Try.f61.body.getD .skip) = true := by kernel_rfl
@[go_sem] theorem own61 : cfg.own 61 = false := rfl
@[go_sem] theorem kn61 : cfg.keepNil 61 = false := rfl
@[go_sem] theorem shr61 : cfg.shared 61 = false := by kernel_rfl
@[go_sem] theorem own62 : cfg.own 62 = false := rfl
@[go_sem] theorem kn62 : cfg.keepNil 62 = false := rfl
@[go_sem] theorem shr62 : cfg.shared 62 = false := by kernel_rfl
@[go_sem] theorem own63 : cfg.own 63 = false := rfl
@[go_sem] theorem kn63 : cfg.keepNil 63 = false := rfl
@[go_sem] theorem shr63 : cfg.shared 63 = false := by kernel_rfl
theorem ok64 : funcOk cfg Try.f64 (Try.f64.body.getD .skip) = true := by kernel_rfl
@[go_sem] theorem own64 : cfg.own 64 = false := rfl
@[go_sem] theorem kn64 : cfg.keepNil 64 = false := rfl
@[go_sem] theorem shr64 : cfg.shared 64 = false := by kernel_rfl
theorem ok65 : funcOk cfg Try.f65 (Try.f65.body.getD .skip) = true := by kernel_rfl
@[go_sem] theorem own65 : cfg.own 65 = false := rfl
@[go_sem] theorem kn65 : cfg.keepNil 65 = false := rfl
@[go_sem] theorem shr65 : cfg.shared 65 = false := by kernel_rfl
theorem ok66 : funcOk cfg Try.f66 (Try.f66.body.getD .skip) = true := by kernel_rfl
@[go_sem] theorem own66 : cfg.own 66 = false := rfl
@[go_sem] theorem kn66 : cfg.keepNil 66 = false := rfl
@[go_sem] theorem shr66 : cfg.shared 66 = false := by kernel_rfl
theorem ok67 : funcOk cfg Try.f67 (Try.f67.body.getD .skip) = true := by kernel_rfl
@[go_sem] theorem own67 : cfg.own 67 = false := rfl
@[go_sem] theorem kn67 : cfg.keepNil 67 = false := rfl
@[go_sem] theorem shr67 : cfg.shared 67 = false := by kernel_rfl
theorem ok68 : funcOk cfg Try.f68 (Try.f68.body.getD .skip) = true := by kernel_rfl
@[go_sem] theorem own68 : cfg.own 68 = false := rfl
@[go_sem] theorem kn68 : cfg.keepNil 68 = false := rfl
@[go_sem] theorem shr68 : cfg.shared 68 = false := by kernel_rfl
theorem ok69 : funcOk cfg Try.f69 (Try.f69.body.getD .skip) = true := by kernel_rfl
@[go_sem] theorem own69 : cfg.own 69 = false := rfl
@[go_sem] theorem kn69 : cfg.keepNil 69 = false := rfl
@[go_sem] theorem shr69 : cfg.shared 69 = false := by kernel_rfl
@[go_sem] theorem own70 : cfg.own 70 = false := rfl
@[go_sem] theorem kn70 : cfg.keepNil 70 = false := rfl
@[go_sem] theorem shr70 : cfg.shared 70 = false := by kernel_rfl
@[go_sem] theorem own71 : cfg.own 71 = false := rfl
@[go_sem] theorem kn71 : cfg.keepNil 71 = false := rfl
@[go_sem] theorem shr71 : cfg.shared 71 = false := by kernel_rfl
@[go_sem] theorem own72 : cfg.own 72 = false := rfl
@[go_sem] theorem kn72 : cfg.keepNil 72 = false := rfl
@[go_sem] theorem shr72 : cfg.shared 72 = false := by kernel_rfl
@[go_sem] theorem own73 : cfg.own 73 = false := rfl
@[go_sem] theorem kn73 : cfg.keepNil 73 = false := rfl
@[go_sem] theorem shr73 : cfg.shared 73 = false := by kernel_rfl
@[go_sem] theorem own74 : cfg.own 74 = false := rfl
@[go_sem] theorem kn74 : cfg.keepNil 74 = false := rfl
@[go_sem] theorem shr74 : cfg.shared 74 = false := by kernel_rfl
theorem ok75 : funcOk cfg Try.f75 (Try.f75.body.getD .skip) = true := by kernel_rfl
@[go_sem] theorem own75 : cfg.own 75 = false := rfl
@[go_sem] theorem kn75 : cfg.keepNil 75 = false := rfl
@[go_sem] theorem shr75 : cfg.shared 75 = false := by kernel_rfl
theorem ok76 : funcOk cfg Try.f76 (Try.f76.body.getD .skip) = true := by kernel_rfl
@[go_sem] theorem own76 : cfg.own 76 = false := rfl
@[go_sem] theorem kn76 : cfg.keepNil 76 = false := rfl
@[go_sem] theorem shr76 : cfg.shared 76 = false := by kernel_rfl
@[go_sem] theorem own77 : cfg.own 77 = false := rfl
@[go_sem] theorem kn77 : cfg.keepNil 77 = false := rfl
@[go_sem] theorem shr77 : cfg.shared 77 = false := by kernel_rfl
theorem ok79 : funcOk cfg Try.f79 (Try.f79.body.getD .skip) = true := by kernel_rfl
@[go_sem] theorem own79 : cfg.own 79 = false := rfl
@[go_sem] theorem kn79 : cfg.keepNil 79 = false := rfl
@[go_sem] theorem shr79 : cfg.shared 79 = false := by kernel_rfl
theorem ok80 : funcOk cfg Try.f80 (Try.f80.body.getD .skip) = true := by kernel_rfl
@[go_sem] theorem own80 : cfg.own 80 = false := rfl
@[go_sem] theorem kn80 : cfg.keepNil 80 = false := rfl
@[go_sem] theorem shr80 : cfg.shared 80 = false := by kernel_rfl
@[go_sem] theorem own81 : cfg.own 81 = false := rfl
@[go_sem] theorem kn81 : cfg.keepNil 81 = false := rfl
@[go_sem] theorem shr81 : cfg.shared 81 = false := by kernel_rfl
theorem ok83 : funcOk cfg Try.f83 (Try.f83.body.getD .skip) = true := by kernel_rfl
@[go_sem] theorem own83 : cfg.own 83 = false := rfl
@[go_sem] theorem kn83 : cfg.keepNil 83 = false := rfl
@[go_sem] theorem shr83 : cfg.shared 83 = false := by kernel_rfl
theorem ok84 : funcOk cfg Try.f84 (Try.f84.body.getD .skip) = true := by kernel_rfl
@[go_sem] theorem own84 : cfg.own 84 = false := rfl
@[go_sem] theorem kn84 : cfg.keepNil 84 = false := rfl
@[go_sem] theorem shr84 : cfg.shared 84 = true := by kernel_rfl
theorem ok85 : funcOk cfg Try.f85 (Try.f85.body.getD .skip) = true := by kernel_rfl
@[go_sem] theorem own85 : cfg.own 85 = false := rfl
@[go_sem] theorem kn85 : cfg.keepNil 85 = false := rfl
@[go_sem] theorem shr85 : cfg.shared 85 = true := by kernel_rfl
/-! Short names for what every step uses. -/
@[go_sem] theorem gl0 {α : Type _} (l : List α) : l.toArray.size = l.length := List.size_toArray
@[go_sem] theorem gl1 {α : Type _} {a : α} {l : List α} : (a :: l).length = l.length + 1 := rfl
@[go_sem] theorem gl2 {α : Type _} : ([] : List α).length = 0 := rfl
@[go_sem] theorem gb1 (b : Bool) : (false && b) = false := Bool.false_and b
@[go_sem] theorem gb3 (b : Bool) : (b || false) = b := Bool.or_false b
@[go_sem] theorem gb5 (b : Bool) : (b && false) = false := Bool.and_false b
@[go_sem] theorem gb6 (b : Bool) : (b && true) = b := Bool.and_true b
theorem gb0 (b : Bool) : (b && b) = b := Bool.and_self b
end Go.Proofs.Ytcdpkgmkckfonaa
