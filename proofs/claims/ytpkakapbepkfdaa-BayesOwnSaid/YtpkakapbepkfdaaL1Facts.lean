/-
  Facts about the program's types and functions that the walks lean on.
-/
import Derived.Test.YtpkakapbepkfdaaAmMap
import Derived.Test.YtpkakapbepkfdaaRows
set_option linter.unusedVariables false
set_option linter.unusedSimpArgs false
namespace Go.Proofs.Ytpkakapbepkfdaa
open Go Go.Am

/-- Who shares memory with its caller, and who hands its result over. -/
def cfg : Cfg := { own := fun f => [22,66].contains f, keepNil := fun f => [25,59].contains f, shared := fun f => [54,58,64,65,73,74,77].contains f, ext := fun _ _ => none, wr := fun a b => if a == 9 && b == 12 then [11] else [], strict := fun a b => (a == 8 && b == 9) || (a == 9 && b == 12) || (a == 11 && b == 7) || (a == 3 && b == 4) || (a == 9 && b == 8) }
@[go_sem] theorem cfg_deep : cfg.deep = false := by kernel_rfl
@[go_sem] theorem cfg_wr_8_9 : cfg.wr 8 9 = [] := rfl
@[go_sem] theorem cfg_wr_9_12 : cfg.wr 9 12 = [11] := rfl
@[go_sem] theorem cfg_wr_11_7 : cfg.wr 11 7 = [] := rfl
@[go_sem] theorem cfg_wr_3_4 : cfg.wr 3 4 = [] := rfl
@[go_sem] theorem cfg_wr_9_8 : cfg.wr 9 8 = [] := rfl
@[go_sem] theorem cfg_wr_1_12 : cfg.wr 1 12 = [] := rfl
@[go_sem] theorem cfg_strict (a b : Nat) : cfg.strict a b = ((a == 8 && b == 9) || (a == 9 && b == 12) || (a == 11 && b == 7) || (a == 3 && b == 4) || (a == 9 && b == 8)) := rfl
@[go_sem] theorem und3 : Try.prog.underlying 3 = some (TypeDesc.int IntKind.i64) := Try.underlying3
@[go_sem] theorem isz3 : isz Try.prog 3 = some 1 := by kernel_rfl
@[go_sem] theorem ibytes3 : ibytes Try.prog 3 = some 8 := by kernel_rfl
@[go_sem] theorem izero3 : izero Try.prog 3 = some (I 0) := by kernel_rfl
@[go_sem] theorem und4 : Try.prog.underlying 4 = some TypeDesc.bool := Try.underlying4
@[go_sem] theorem isz4 : isz Try.prog 4 = some 1 := by kernel_rfl
@[go_sem] theorem ibytes4 : ibytes Try.prog 4 = some 1 := by kernel_rfl
@[go_sem] theorem izero4 : izero Try.prog 4 = some (.bool false) := by kernel_rfl
@[go_sem] theorem und22 : Try.prog.underlying 22 = some (TypeDesc.slice 25) := Try.underlying22
@[go_sem] theorem isz22 : isz Try.prog 22 = some 1 := by kernel_rfl
@[go_sem] theorem ibytes22 : ibytes Try.prog 22 = some 24 := by kernel_rfl
@[go_sem] theorem izero22 : izero Try.prog 22 = some (.nil) := by kernel_rfl
@[go_sem] theorem und24 : Try.prog.underlying 24 = some (TypeDesc.struct #[{ name := "Parents", type := 22, offset := 0, embedded := false, tag := "", pkgPath := "", byteOffset := 0 }, { name := "Table", type := 22, offset := 1, embedded := false, tag := "", pkgPath := "", byteOffset := 24 }]) := Try.underlying24
@[go_sem] theorem isz24 : isz Try.prog 24 = some 2 := by kernel_rfl
@[go_sem] theorem ibytes24 : ibytes Try.prog 24 = some 48 := by kernel_rfl
@[go_sem] theorem izero24 : izero Try.prog 24 = some (.agg [.nil, .nil]) := by kernel_rfl
@[go_sem] theorem und25 : Try.prog.underlying 25 = some (TypeDesc.slice 3) := Try.underlying25
@[go_sem] theorem isz25 : isz Try.prog 25 = some 1 := by kernel_rfl
@[go_sem] theorem ibytes25 : ibytes Try.prog 25 = some 24 := by kernel_rfl
@[go_sem] theorem izero25 : izero Try.prog 25 = some (.nil) := by kernel_rfl
@[go_sem] theorem isz27 : isz Try.prog 27 = some 1 := by kernel_rfl
@[go_sem] theorem ibytes27 : ibytes Try.prog 27 = some 8 := by kernel_rfl
@[go_sem] theorem izero27 : izero Try.prog 27 = some (.nilfn) := by kernel_rfl
@[go_sem] theorem und29 : Try.prog.underlying 29 = some (TypeDesc.struct #[{ name := "Num", type := 3, offset := 0, embedded := false, tag := "", pkgPath := "", byteOffset := 0 }, { name := "Den", type := 3, offset := 1, embedded := false, tag := "", pkgPath := "", byteOffset := 8 }]) := Try.underlying29
@[go_sem] theorem isz29 : isz Try.prog 29 = some 2 := by kernel_rfl
@[go_sem] theorem ibytes29 : ibytes Try.prog 29 = some 16 := by kernel_rfl
@[go_sem] theorem izero29 : izero Try.prog 29 = some (.agg [I 0, I 0]) := by kernel_rfl
@[go_sem] theorem isz30 : isz Try.prog 30 = some 1 := by kernel_rfl
@[go_sem] theorem ibytes30 : ibytes Try.prog 30 = some 8 := by kernel_rfl
@[go_sem] theorem izero30 : izero Try.prog 30 = some (I 0) := by kernel_rfl
@[go_sem] theorem und38 : Try.prog.underlying 38 = some (TypeDesc.slice 46) := Try.underlying38
@[go_sem] theorem isz38 : isz Try.prog 38 = some 1 := by kernel_rfl
@[go_sem] theorem ibytes38 : ibytes Try.prog 38 = some 24 := by kernel_rfl
@[go_sem] theorem izero38 : izero Try.prog 38 = some (.nil) := by kernel_rfl
@[go_sem] theorem und40 : Try.prog.underlying 40 = some (TypeDesc.struct #[{ name := "Asked", type := 38, offset := 0, embedded := false, tag := "", pkgPath := "", byteOffset := 0 }, { name := "Given", type := 38, offset := 1, embedded := false, tag := "", pkgPath := "", byteOffset := 24 }]) := Try.underlying40
@[go_sem] theorem isz40 : isz Try.prog 40 = some 2 := by kernel_rfl
@[go_sem] theorem ibytes40 : ibytes Try.prog 40 = some 48 := by kernel_rfl
@[go_sem] theorem izero40 : izero Try.prog 40 = some (.agg [.nil, .nil]) := by kernel_rfl
@[go_sem] theorem und46 : Try.prog.underlying 46 = some (TypeDesc.array 2 3) := Try.underlying46
@[go_sem] theorem isz46 : isz Try.prog 46 = some 2 := by kernel_rfl
@[go_sem] theorem ibytes46 : ibytes Try.prog 46 = some 16 := by kernel_rfl
@[go_sem] theorem izero46 : izero Try.prog 46 = some (.agg [I 0, I 0]) := by kernel_rfl
@[go_sem] theorem und79 : Try.prog.underlying 79 = some (TypeDesc.struct #[{ name := "Network", type := 24, offset := 0, embedded := true, tag := "", pkgPath := "", byteOffset := 0 }, { name := "n", type := 3, offset := 2, embedded := false, tag := "", pkgPath := "turndown/bayes", byteOffset := 48 }]) := Try.underlying79
@[go_sem] theorem isz79 : isz Try.prog 79 = some 3 := by kernel_rfl
@[go_sem] theorem ibytes79 : ibytes Try.prog 79 = some 56 := by kernel_rfl
@[go_sem] theorem izero79 : izero Try.prog 79 = some (.agg [.nil, .nil, I 0]) := by kernel_rfl
@[go_sem] theorem isz84 : isz Try.prog 84 = some 1 := by kernel_rfl
@[go_sem] theorem ibytes84 : ibytes Try.prog 84 = some 8 := by kernel_rfl
@[go_sem] theorem izero84 : izero Try.prog 84 = some (.nilfn) := by kernel_rfl
@[go_sem] theorem und86 : Try.prog.underlying 86 = some (TypeDesc.array 10 3) := Try.underlying86
@[go_sem] theorem isz86 : isz Try.prog 86 = some 10 := by kernel_rfl
@[go_sem] theorem ibytes86 : ibytes Try.prog 86 = some 80 := by kernel_rfl
@[go_sem] theorem izero86 : izero Try.prog 86 = some (.agg [I 0, I 0, I 0, I 0, I 0, I 0, I 0, I 0, I 0, I 0]) := by kernel_rfl
@[go_sem] theorem und90 : Try.prog.underlying 90 = some (TypeDesc.map 3 3) := Try.underlying90
@[go_sem] theorem isz90 : isz Try.prog 90 = some 1 := by kernel_rfl
@[go_sem] theorem ibytes90 : ibytes Try.prog 90 = some 8 := by kernel_rfl
@[go_sem] theorem izero90 : izero Try.prog 90 = some (.nilmp) := by kernel_rfl
@[go_sem] theorem isz97 : isz Try.prog 97 = some 1 := by kernel_rfl
@[go_sem] theorem ibytes97 : ibytes Try.prog 97 = some 8 := by kernel_rfl
@[go_sem] theorem izero97 : izero Try.prog 97 = some (.nilmp) := by kernel_rfl
@[go_sem] theorem isz99 : isz Try.prog 99 = some 5 := by kernel_rfl
@[go_sem] theorem ibytes99 : ibytes Try.prog 99 = some 72 := by kernel_rfl
@[go_sem] theorem izero99 : izero Try.prog 99 = some (.agg [.nil, .nil, I 0, .nilmp, .nilmp]) := by kernel_rfl
@[go_sem] theorem und108 : Try.prog.underlying 108 = some (TypeDesc.func #[86] #[] false) := Try.underlying108
@[go_sem] theorem isz108 : isz Try.prog 108 = some 1 := by kernel_rfl
@[go_sem] theorem ibytes108 : ibytes Try.prog 108 = some 8 := by kernel_rfl
@[go_sem] theorem izero108 : izero Try.prog 108 = some (.nilfn) := by kernel_rfl
@[go_sem] theorem isz112 : isz Try.prog 112 = some 4 := by kernel_rfl
@[go_sem] theorem ibytes112 : ibytes Try.prog 112 = some 32 := by kernel_rfl
@[go_sem] theorem izero112 : izero Try.prog 112 = some (.agg [I 0, I 0, I 0, I 0]) := by kernel_rfl
@[go_sem] theorem und116 : Try.prog.underlying 116 = some (TypeDesc.func #[3] #[] false) := Try.underlying116
@[go_sem] theorem isz116 : isz Try.prog 116 = some 1 := by kernel_rfl
@[go_sem] theorem ibytes116 : ibytes Try.prog 116 = some 8 := by kernel_rfl
@[go_sem] theorem izero116 : izero Try.prog 116 = some (.nilfn) := by kernel_rfl
@[go_sem] theorem own3 : cfg.own 3 = false := rfl
@[go_sem] theorem kn3 : cfg.keepNil 3 = false := rfl
@[go_sem] theorem shr3 : cfg.shared 3 = false := by kernel_rfl
@[go_sem] theorem own5 : cfg.own 5 = false := rfl
@[go_sem] theorem kn5 : cfg.keepNil 5 = false := rfl
@[go_sem] theorem shr5 : cfg.shared 5 = false := by kernel_rfl
@[go_sem] theorem own6 : cfg.own 6 = false := rfl
@[go_sem] theorem kn6 : cfg.keepNil 6 = false := rfl
@[go_sem] theorem shr6 : cfg.shared 6 = false := by kernel_rfl
@[go_sem] theorem own8 : cfg.own 8 = false := rfl
@[go_sem] theorem kn8 : cfg.keepNil 8 = false := rfl
@[go_sem] theorem shr8 : cfg.shared 8 = false := by kernel_rfl
@[go_sem] theorem own9 : cfg.own 9 = false := rfl
@[go_sem] theorem kn9 : cfg.keepNil 9 = false := rfl
@[go_sem] theorem shr9 : cfg.shared 9 = false := by kernel_rfl
@[go_sem] theorem own10 : cfg.own 10 = false := rfl
@[go_sem] theorem kn10 : cfg.keepNil 10 = false := rfl
@[go_sem] theorem shr10 : cfg.shared 10 = false := by kernel_rfl
@[go_sem] theorem own11 : cfg.own 11 = false := rfl
@[go_sem] theorem kn11 : cfg.keepNil 11 = false := rfl
@[go_sem] theorem shr11 : cfg.shared 11 = false := by kernel_rfl
@[go_sem] theorem own12 : cfg.own 12 = false := rfl
@[go_sem] theorem kn12 : cfg.keepNil 12 = false := rfl
@[go_sem] theorem shr12 : cfg.shared 12 = false := by kernel_rfl
@[go_sem] theorem own13 : cfg.own 13 = false := rfl
@[go_sem] theorem kn13 : cfg.keepNil 13 = false := rfl
@[go_sem] theorem shr13 : cfg.shared 13 = false := by kernel_rfl
@[go_sem] theorem own14 : cfg.own 14 = false := rfl
@[go_sem] theorem kn14 : cfg.keepNil 14 = false := rfl
@[go_sem] theorem shr14 : cfg.shared 14 = false := by kernel_rfl
@[go_sem] theorem own15 : cfg.own 15 = false := rfl
@[go_sem] theorem kn15 : cfg.keepNil 15 = false := rfl
@[go_sem] theorem shr15 : cfg.shared 15 = false := by kernel_rfl
theorem ok16 : funcOk cfg Try.f16 (Try.f16.body.getD .skip) = true := by kernel_rfl
@[go_sem] theorem own16 : cfg.own 16 = false := rfl
@[go_sem] theorem kn16 : cfg.keepNil 16 = false := rfl
@[go_sem] theorem shr16 : cfg.shared 16 = false := by kernel_rfl
theorem ok17 : funcOk cfg Try.f17 (Try.f17.body.getD .skip) = true := by kernel_rfl
@[go_sem] theorem own17 : cfg.own 17 = false := rfl
@[go_sem] theorem kn17 : cfg.keepNil 17 = false := rfl
@[go_sem] theorem shr17 : cfg.shared 17 = false := by kernel_rfl
@[go_sem] theorem own18 : cfg.own 18 = false := rfl
@[go_sem] theorem kn18 : cfg.keepNil 18 = false := rfl
@[go_sem] theorem shr18 : cfg.shared 18 = false := by kernel_rfl
theorem ok19 : funcOk cfg Try.f19 (Try.f19.body.getD .skip) = true := by kernel_rfl
@[go_sem] theorem own19 : cfg.own 19 = false := rfl
@[go_sem] theorem kn19 : cfg.keepNil 19 = false := rfl
@[go_sem] theorem shr19 : cfg.shared 19 = false := by kernel_rfl
@[go_sem] theorem own20 : cfg.own 20 = false := rfl
@[go_sem] theorem kn20 : cfg.keepNil 20 = false := rfl
@[go_sem] theorem shr20 : cfg.shared 20 = false := by kernel_rfl
theorem ok21 : funcOk cfg Try.f21 (Try.f21.body.getD .skip) = true := by kernel_rfl
@[go_sem] theorem own21 : cfg.own 21 = false := rfl
@[go_sem] theorem kn21 : cfg.keepNil 21 = false := rfl
@[go_sem] theorem shr21 : cfg.shared 21 = false := by kernel_rfl
@[go_sem] theorem own22 : cfg.own 22 = true := rfl
@[go_sem] theorem kn22 : cfg.keepNil 22 = false := rfl
@[go_sem] theorem shr22 : cfg.shared 22 = false := by kernel_rfl
@[go_sem] theorem own23 : cfg.own 23 = false := rfl
@[go_sem] theorem kn23 : cfg.keepNil 23 = false := rfl
@[go_sem] theorem shr23 : cfg.shared 23 = false := by kernel_rfl
@[go_sem] theorem own24 : cfg.own 24 = false := rfl
@[go_sem] theorem kn24 : cfg.keepNil 24 = false := rfl
@[go_sem] theorem shr24 : cfg.shared 24 = false := by kernel_rfl
@[go_sem] theorem own25 : cfg.own 25 = false := rfl
@[go_sem] theorem kn25 : cfg.keepNil 25 = true := rfl
@[go_sem] theorem shr25 : cfg.shared 25 = false := by kernel_rfl
@[go_sem] theorem own26 : cfg.own 26 = false := rfl
@[go_sem] theorem kn26 : cfg.keepNil 26 = false := rfl
@[go_sem] theorem shr26 : cfg.shared 26 = false := by kernel_rfl
@[go_sem] theorem own27 : cfg.own 27 = false := rfl
@[go_sem] theorem kn27 : cfg.keepNil 27 = false := rfl
@[go_sem] theorem shr27 : cfg.shared 27 = false := by kernel_rfl
@[go_sem] theorem own28 : cfg.own 28 = false := rfl
@[go_sem] theorem kn28 : cfg.keepNil 28 = false := rfl
@[go_sem] theorem shr28 : cfg.shared 28 = false := by kernel_rfl
@[go_sem] theorem own29 : cfg.own 29 = false := rfl
@[go_sem] theorem kn29 : cfg.keepNil 29 = false := rfl
@[go_sem] theorem shr29 : cfg.shared 29 = false := by kernel_rfl
theorem ok30 : funcOk cfg Try.f30 (Try.f30.body.getD .skip) = true := by kernel_rfl
@[go_sem] theorem own30 : cfg.own 30 = false := rfl
@[go_sem] theorem kn30 : cfg.keepNil 30 = false := rfl
@[go_sem] theorem shr30 : cfg.shared 30 = false := by kernel_rfl
theorem ok31 : funcOk cfg Try.f31 (Try.f31.body.getD .skip) = true := by kernel_rfl
@[go_sem] theorem own31 : cfg.own 31 = false := rfl
@[go_sem] theorem kn31 : cfg.keepNil 31 = false := rfl
@[go_sem] theorem shr31 : cfg.shared 31 = false := by kernel_rfl
@[go_sem] theorem own32 : cfg.own 32 = false := rfl
@[go_sem] theorem kn32 : cfg.keepNil 32 = false := rfl
@[go_sem] theorem shr32 : cfg.shared 32 = false := by kernel_rfl
theorem ok33 : funcOk cfg Try.f33 (Try.f33.body.getD .skip) = true := by kernel_rfl
@[go_sem] theorem own33 : cfg.own 33 = false := rfl
@[go_sem] theorem kn33 : cfg.keepNil 33 = false := rfl
@[go_sem] theorem shr33 : cfg.shared 33 = false := by kernel_rfl
@[go_sem] theorem own34 : cfg.own 34 = false := rfl
@[go_sem] theorem kn34 : cfg.keepNil 34 = false := rfl
@[go_sem] theorem shr34 : cfg.shared 34 = false := by kernel_rfl
theorem ok35 : funcOk cfg Try.f35 (Try.f35.body.getD .skip) = true := by kernel_rfl
@[go_sem] theorem own35 : cfg.own 35 = false := rfl
@[go_sem] theorem kn35 : cfg.keepNil 35 = false := rfl
@[go_sem] theorem shr35 : cfg.shared 35 = false := by kernel_rfl
@[go_sem] theorem own36 : cfg.own 36 = false := rfl
@[go_sem] theorem kn36 : cfg.keepNil 36 = false := rfl
@[go_sem] theorem shr36 : cfg.shared 36 = false := by kernel_rfl
theorem ok37 : funcOk cfg Try.f37 (Try.f37.body.getD .skip) = true := by kernel_rfl
@[go_sem] theorem own37 : cfg.own 37 = false := rfl
@[go_sem] theorem kn37 : cfg.keepNil 37 = false := rfl
@[go_sem] theorem shr37 : cfg.shared 37 = false := by kernel_rfl
theorem ok38 : funcOk cfg Try.f38 (Try.f38.body.getD .skip) = true := by kernel_rfl
@[go_sem] theorem own38 : cfg.own 38 = false := rfl
@[go_sem] theorem kn38 : cfg.keepNil 38 = false := rfl
@[go_sem] theorem shr38 : cfg.shared 38 = false := by kernel_rfl
theorem ok39 : funcOk cfg Try.f39 (Try.f39.body.getD .skip) = true := by kernel_rfl
@[go_sem] theorem own39 : cfg.own 39 = false := rfl
@[go_sem] theorem kn39 : cfg.keepNil 39 = false := rfl
@[go_sem] theorem shr39 : cfg.shared 39 = false := by kernel_rfl
@[go_sem] theorem own40 : cfg.own 40 = false := rfl
@[go_sem] theorem kn40 : cfg.keepNil 40 = false := rfl
@[go_sem] theorem shr40 : cfg.shared 40 = false := by kernel_rfl
@[go_sem] theorem own41 : cfg.own 41 = false := rfl
@[go_sem] theorem kn41 : cfg.keepNil 41 = false := rfl
@[go_sem] theorem shr41 : cfg.shared 41 = false := by kernel_rfl
@[go_sem] theorem own42 : cfg.own 42 = false := rfl
@[go_sem] theorem kn42 : cfg.keepNil 42 = false := rfl
@[go_sem] theorem shr42 : cfg.shared 42 = false := by kernel_rfl
theorem ok43 : funcOk cfg Try.f43 (Try.f43.body.getD .skip) = true := by kernel_rfl
@[go_sem] theorem own43 : cfg.own 43 = false := rfl
@[go_sem] theorem kn43 : cfg.keepNil 43 = false := rfl
@[go_sem] theorem shr43 : cfg.shared 43 = false := by kernel_rfl
@[go_sem] theorem own44 : cfg.own 44 = false := rfl
@[go_sem] theorem kn44 : cfg.keepNil 44 = false := rfl
@[go_sem] theorem shr44 : cfg.shared 44 = false := by kernel_rfl
@[go_sem] theorem own45 : cfg.own 45 = false := rfl
@[go_sem] theorem kn45 : cfg.keepNil 45 = false := rfl
@[go_sem] theorem shr45 : cfg.shared 45 = false := by kernel_rfl
theorem ok46 : funcOk cfg Try.f46 (Try.f46.body.getD .skip) = true := by kernel_rfl
@[go_sem] theorem own46 : cfg.own 46 = false := rfl
@[go_sem] theorem kn46 : cfg.keepNil 46 = false := rfl
@[go_sem] theorem shr46 : cfg.shared 46 = false := by kernel_rfl
theorem ok47 : funcOk cfg Try.f47 (Try.f47.body.getD .skip) = true := by kernel_rfl
@[go_sem] theorem own47 : cfg.own 47 = false := rfl
@[go_sem] theorem kn47 : cfg.keepNil 47 = false := rfl
@[go_sem] theorem shr47 : cfg.shared 47 = false := by kernel_rfl
@[go_sem] theorem own48 : cfg.own 48 = false := rfl
@[go_sem] theorem kn48 : cfg.keepNil 48 = false := rfl
@[go_sem] theorem shr48 : cfg.shared 48 = false := by kernel_rfl
theorem ok49 : funcOk cfg Try.f49 (Try.f49.body.getD .skip) = true := by kernel_rfl
@[go_sem] theorem own49 : cfg.own 49 = false := rfl
@[go_sem] theorem kn49 : cfg.keepNil 49 = false := rfl
@[go_sem] theorem shr49 : cfg.shared 49 = false := by kernel_rfl
theorem ok50 : funcOk cfg Try.f50 (Try.f50.body.getD .skip) = true := by kernel_rfl
@[go_sem] theorem own50 : cfg.own 50 = false := rfl
@[go_sem] theorem kn50 : cfg.keepNil 50 = false := rfl
@[go_sem] theorem shr50 : cfg.shared 50 = false := by kernel_rfl
theorem ok51 : funcOk cfg Try.f51 (Try.f51.body.getD .skip) = true := by kernel_rfl
@[go_sem] theorem own51 : cfg.own 51 = false := rfl
@[go_sem] theorem kn51 : cfg.keepNil 51 = false := rfl
@[go_sem] theorem shr51 : cfg.shared 51 = false := by kernel_rfl
theorem ok52 : funcOk cfg Try.f52 (Try.f52.body.getD .skip) = true := by kernel_rfl
@[go_sem] theorem own52 : cfg.own 52 = false := rfl
@[go_sem] theorem kn52 : cfg.keepNil 52 = false := rfl
@[go_sem] theorem shr52 : cfg.shared 52 = false := by kernel_rfl
theorem ok53 : funcOk cfg Try.f53 (Try.f53.body.getD .skip) = true := by kernel_rfl
@[go_sem] theorem own53 : cfg.own 53 = false := rfl
@[go_sem] theorem kn53 : cfg.keepNil 53 = false := rfl
@[go_sem] theorem shr53 : cfg.shared 53 = false := by kernel_rfl
theorem ok54 : funcOk cfg Try.f54 (Try.f54.body.getD .skip) = true := by kernel_rfl
@[go_sem] theorem own54 : cfg.own 54 = false := rfl
@[go_sem] theorem kn54 : cfg.keepNil 54 = false := rfl
@[go_sem] theorem shr54 : cfg.shared 54 = true := by kernel_rfl
theorem ok55 : funcOk cfg Try.f55 (Try.f55.body.getD .skip) = true := by kernel_rfl
@[go_sem] theorem own55 : cfg.own 55 = false := rfl
@[go_sem] theorem kn55 : cfg.keepNil 55 = false := rfl
@[go_sem] theorem shr55 : cfg.shared 55 = false := by kernel_rfl
theorem ok56 : funcOk cfg Try.f56 (Try.f56.body.getD .skip) = true := by kernel_rfl
@[go_sem] theorem own56 : cfg.own 56 = false := rfl
@[go_sem] theorem kn56 : cfg.keepNil 56 = false := rfl
@[go_sem] theorem shr56 : cfg.shared 56 = false := by kernel_rfl
@[go_sem] theorem own57 : cfg.own 57 = false := rfl
@[go_sem] theorem kn57 : cfg.keepNil 57 = false := rfl
@[go_sem] theorem shr57 : cfg.shared 57 = false := by kernel_rfl
@[go_sem] theorem own58 : cfg.own 58 = false := rfl
@[go_sem] theorem kn58 : cfg.keepNil 58 = false := rfl
@[go_sem] theorem shr58 : cfg.shared 58 = true := by kernel_rfl
@[go_sem] theorem own59 : cfg.own 59 = false := rfl
@[go_sem] theorem kn59 : cfg.keepNil 59 = true := rfl
@[go_sem] theorem shr59 : cfg.shared 59 = false := by kernel_rfl
@[go_sem] theorem own60 : cfg.own 60 = false := rfl
@[go_sem] theorem kn60 : cfg.keepNil 60 = false := rfl
@[go_sem] theorem shr60 : cfg.shared 60 = false := by kernel_rfl
@[go_sem] theorem own61 : cfg.own 61 = false := rfl
@[go_sem] theorem kn61 : cfg.keepNil 61 = false := rfl
@[go_sem] theorem shr61 : cfg.shared 61 = false := by kernel_rfl
theorem ok62 : funcOk cfg Try.f62 (Try.f62.body.getD .skip) = true := by kernel_rfl
@[go_sem] theorem own62 : cfg.own 62 = false := rfl
@[go_sem] theorem kn62 : cfg.keepNil 62 = false := rfl
@[go_sem] theorem shr62 : cfg.shared 62 = false := by kernel_rfl
@[go_sem] theorem own63 : cfg.own 63 = false := rfl
@[go_sem] theorem kn63 : cfg.keepNil 63 = false := rfl
@[go_sem] theorem shr63 : cfg.shared 63 = false := by kernel_rfl
theorem ok64 : funcOk cfg Try.f64 (Try.f64.body.getD .skip) = true := by kernel_rfl
@[go_sem] theorem own64 : cfg.own 64 = false := rfl
@[go_sem] theorem kn64 : cfg.keepNil 64 = false := rfl
@[go_sem] theorem shr64 : cfg.shared 64 = true := by kernel_rfl
theorem ok65 : funcOk cfg Try.f65 (Try.f65.body.getD .skip) = true := by kernel_rfl
@[go_sem] theorem own65 : cfg.own 65 = false := rfl
@[go_sem] theorem kn65 : cfg.keepNil 65 = false := rfl
@[go_sem] theorem shr65 : cfg.shared 65 = true := by kernel_rfl
theorem ok66 : funcOk cfg Try.f66 (Try.f66.body.getD .skip) = true := by kernel_rfl
@[go_sem] theorem own66 : cfg.own 66 = true := rfl
@[go_sem] theorem kn66 : cfg.keepNil 66 = false := rfl
@[go_sem] theorem shr66 : cfg.shared 66 = false := by kernel_rfl
theorem ok67 : funcOk cfg Try.f67 (Try.f67.body.getD .skip) = true := by kernel_rfl
@[go_sem] theorem own67 : cfg.own 67 = false := rfl
@[go_sem] theorem kn67 : cfg.keepNil 67 = false := rfl
@[go_sem] theorem shr67 : cfg.shared 67 = false := by kernel_rfl
@[go_sem] theorem own68 : cfg.own 68 = false := rfl
@[go_sem] theorem kn68 : cfg.keepNil 68 = false := rfl
@[go_sem] theorem shr68 : cfg.shared 68 = false := by kernel_rfl
@[go_sem] theorem own69 : cfg.own 69 = false := rfl
@[go_sem] theorem kn69 : cfg.keepNil 69 = false := rfl
@[go_sem] theorem shr69 : cfg.shared 69 = false := by kernel_rfl
@[go_sem] theorem own70 : cfg.own 70 = false := rfl
@[go_sem] theorem kn70 : cfg.keepNil 70 = false := rfl
@[go_sem] theorem shr70 : cfg.shared 70 = false := by kernel_rfl
theorem ok71 : funcOk cfg Try.f71 (Try.f71.body.getD .skip) = true := by kernel_rfl
@[go_sem] theorem own71 : cfg.own 71 = false := rfl
@[go_sem] theorem kn71 : cfg.keepNil 71 = false := rfl
@[go_sem] theorem shr71 : cfg.shared 71 = false := by kernel_rfl
theorem ok72 : funcOk cfg Try.f72 (Try.f72.body.getD .skip) = true := by kernel_rfl
@[go_sem] theorem own72 : cfg.own 72 = false := rfl
@[go_sem] theorem kn72 : cfg.keepNil 72 = false := rfl
@[go_sem] theorem shr72 : cfg.shared 72 = false := by kernel_rfl
theorem ok73 : funcOk cfg Try.f73 (Try.f73.body.getD .skip) = true := by kernel_rfl
@[go_sem] theorem own73 : cfg.own 73 = false := rfl
@[go_sem] theorem kn73 : cfg.keepNil 73 = false := rfl
@[go_sem] theorem shr73 : cfg.shared 73 = true := by kernel_rfl
@[go_sem] theorem own74 : cfg.own 74 = false := rfl
@[go_sem] theorem kn74 : cfg.keepNil 74 = false := rfl
@[go_sem] theorem shr74 : cfg.shared 74 = true := by kernel_rfl
@[go_sem] theorem own75 : cfg.own 75 = false := rfl
@[go_sem] theorem kn75 : cfg.keepNil 75 = false := rfl
@[go_sem] theorem shr75 : cfg.shared 75 = false := by kernel_rfl
@[go_sem] theorem own76 : cfg.own 76 = false := rfl
@[go_sem] theorem kn76 : cfg.keepNil 76 = false := rfl
@[go_sem] theorem shr76 : cfg.shared 76 = false := by kernel_rfl
theorem ok77 : funcOk cfg Try.f77 (Try.f77.body.getD .skip) = true := by kernel_rfl
@[go_sem] theorem own77 : cfg.own 77 = false := rfl
@[go_sem] theorem kn77 : cfg.keepNil 77 = false := rfl
@[go_sem] theorem shr77 : cfg.shared 77 = true := by kernel_rfl
@[go_sem] theorem own78 : cfg.own 78 = false := rfl
@[go_sem] theorem kn78 : cfg.keepNil 78 = false := rfl
@[go_sem] theorem shr78 : cfg.shared 78 = false := by kernel_rfl
@[go_sem] theorem own79 : cfg.own 79 = false := rfl
@[go_sem] theorem kn79 : cfg.keepNil 79 = false := rfl
@[go_sem] theorem shr79 : cfg.shared 79 = false := by kernel_rfl
end Go.Proofs.Ytpkakapbepkfdaa
