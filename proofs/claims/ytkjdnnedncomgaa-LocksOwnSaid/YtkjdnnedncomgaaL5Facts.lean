/-
  Facts about the program's types and functions that the walks lean on.
-/
import Derived.Test.YtkjdnnedncomgaaAmFor
import Derived.Test.YtkjdnnedncomgaaRows
set_option linter.unusedVariables false
set_option linter.unusedSimpArgs false
namespace Go.Proofs.Ytkjdnnedncomgaa
open Go Go.Am
/-- Who shares memory with its caller, and who hands its result over. -/
def cfg : Cfg := { own := fun f => [13, 51].contains f, keepNil := fun f => [].contains f, shared := fun f => [57].contains f, ext := fun _ _ => none }
@[go_sem] theorem cfg_deep : cfg.deep = false := by kernel_rfl
@[go_sem] theorem cfg_strict (a b : Nat) : cfg.strict a b = false := rfl
@[go_sem] theorem cfg_wr (a b : Nat) : cfg.wr a b = [] := rfl
@[go_sem] theorem und3 : Try.prog.underlying 3 = some (.int .i64) := Try.underlying3
@[go_sem] theorem isz3 : isz Try.prog 3 = some 1 := by kernel_rfl
@[go_sem] theorem ibytes3 : ibytes Try.prog 3 = some 8 := by kernel_rfl
@[go_sem] theorem izero3 : izero Try.prog 3 = some (I 0) := by kernel_rfl
@[go_sem] theorem und4 : Try.prog.underlying 4 = some .bool := Try.underlying4
@[go_sem] theorem isz4 : isz Try.prog 4 = some 1 := by kernel_rfl
@[go_sem] theorem ibytes4 : ibytes Try.prog 4 = some 1 := by kernel_rfl
@[go_sem] theorem izero4 : izero Try.prog 4 = some (.bool false) := by kernel_rfl
@[go_sem] theorem und22 : Try.prog.underlying 22 = some (.slice 27) := Try.underlying22
@[go_sem] theorem isz22 : isz Try.prog 22 = some 1 := by kernel_rfl
@[go_sem] theorem ibytes22 : ibytes Try.prog 22 = some 24 := by kernel_rfl
@[go_sem] theorem izero22 : izero Try.prog 22 = some .nil := by kernel_rfl
@[go_sem] theorem und27 : Try.prog.underlying 27 = some (.slice 3) := Try.underlying27
@[go_sem] theorem isz27 : isz Try.prog 27 = some 1 := by kernel_rfl
@[go_sem] theorem ibytes27 : ibytes Try.prog 27 = some 24 := by kernel_rfl
@[go_sem] theorem izero27 : izero Try.prog 27 = some .nil := by kernel_rfl
@[go_sem] theorem und23 : Try.prog.underlying 23 = some (.array 2 3) := Try.underlying23
@[go_sem] theorem isz23 : isz Try.prog 23 = some 2 := by kernel_rfl
@[go_sem] theorem ibytes23 : ibytes Try.prog 23 = some 16 := by kernel_rfl
@[go_sem] theorem izero23 : izero Try.prog 23 = some (.agg [I 0, I 0]) := by kernel_rfl
@[go_sem] theorem und43 : Try.prog.underlying 43 = some (.slice 23) := Try.underlying43
@[go_sem] theorem isz43 : isz Try.prog 43 = some 1 := by kernel_rfl
@[go_sem] theorem ibytes43 : ibytes Try.prog 43 = some 24 := by kernel_rfl
@[go_sem] theorem izero43 : izero Try.prog 43 = some .nil := by kernel_rfl
@[go_sem] theorem und51 : Try.prog.underlying 51 = some (.array 5 3) := Try.underlying51
@[go_sem] theorem isz51 : isz Try.prog 51 = some 5 := by kernel_rfl
@[go_sem] theorem ibytes51 : ibytes Try.prog 51 = some 40 := by kernel_rfl
@[go_sem] theorem izero51 : izero Try.prog 51 = some (.agg [I 0, I 0, I 0, I 0, I 0]) := by kernel_rfl
@[go_sem] theorem und58 : Try.prog.underlying 58 = some (.array 3 3) := Try.underlying58
@[go_sem] theorem isz58 : isz Try.prog 58 = some 3 := by kernel_rfl
@[go_sem] theorem ibytes58 : ibytes Try.prog 58 = some 24 := by kernel_rfl
@[go_sem] theorem izero58 : izero Try.prog 58 = some (.agg [I 0, I 0, I 0]) := by kernel_rfl
@[go_sem] theorem isz28 : isz Try.prog 28 = some 1 := by kernel_rfl
@[go_sem] theorem ibytes28 : ibytes Try.prog 28 = some 8 := by kernel_rfl
@[go_sem] theorem izero28 : izero Try.prog 28 = some (I 0) := by kernel_rfl
@[go_sem] theorem und60 : Try.prog.underlying 60 = some (.int .u64) := Try.underlying60
@[go_sem] theorem isz60 : isz Try.prog 60 = some 1 := by kernel_rfl
@[go_sem] theorem ibytes60 : ibytes Try.prog 60 = some 8 := by kernel_rfl
@[go_sem] theorem izero60 : izero Try.prog 60 = some (.int .u64 0) := by kernel_rfl
@[go_sem] theorem und80 : Try.prog.underlying 80 = some (.int .i64) := Try.underlying80
@[go_sem] theorem isz80 : isz Try.prog 80 = some 1 := by kernel_rfl
@[go_sem] theorem ibytes80 : ibytes Try.prog 80 = some 8 := by kernel_rfl
@[go_sem] theorem izero80 : izero Try.prog 80 = some (I 0) := by kernel_rfl
@[go_sem] theorem und65 : Try.prog.underlying 65 = some (.slice 69) := Try.underlying65
@[go_sem] theorem isz65 : isz Try.prog 65 = some 1 := by kernel_rfl
@[go_sem] theorem ibytes65 : ibytes Try.prog 65 = some 24 := by kernel_rfl
@[go_sem] theorem izero65 : izero Try.prog 65 = some .nil := by kernel_rfl
@[go_sem] theorem und69 : Try.prog.underlying 69 = some (.array 6 3) := Try.underlying69
@[go_sem] theorem isz69 : isz Try.prog 69 = some 6 := by kernel_rfl
@[go_sem] theorem ibytes69 : ibytes Try.prog 69 = some 48 := by kernel_rfl
@[go_sem] theorem izero69 : izero Try.prog 69 = some (.agg [I 0, I 0, I 0, I 0, I 0, I 0]) := by kernel_rfl
@[go_sem] theorem und78 : Try.prog.underlying 78 = some (.slice 85) := Try.underlying78
@[go_sem] theorem isz78 : isz Try.prog 78 = some 1 := by kernel_rfl
@[go_sem] theorem ibytes78 : ibytes Try.prog 78 = some 24 := by kernel_rfl
@[go_sem] theorem izero78 : izero Try.prog 78 = some .nil := by kernel_rfl
@[go_sem] theorem und86 : Try.prog.underlying 86 = some (.map 80 69) := Try.underlying86
@[go_sem] theorem isz86 : isz Try.prog 86 = some 1 := by kernel_rfl
@[go_sem] theorem ibytes86 : ibytes Try.prog 86 = some 8 := by kernel_rfl
@[go_sem] theorem izero86 : izero Try.prog 86 = some .nilmp := by kernel_rfl
@[go_sem] theorem und87 : Try.prog.underlying 87 = some (.slice 80) := Try.underlying87
@[go_sem] theorem isz87 : isz Try.prog 87 = some 1 := by kernel_rfl
@[go_sem] theorem ibytes87 : ibytes Try.prog 87 = some 24 := by kernel_rfl
@[go_sem] theorem izero87 : izero Try.prog 87 = some .nil := by kernel_rfl
@[go_sem] theorem und88 : Try.prog.underlying 88 = some (.func #[3, 3] #[] false) := Try.underlying88
@[go_sem] theorem isz88 : isz Try.prog 88 = some 1 := by kernel_rfl
@[go_sem] theorem ibytes88 : ibytes Try.prog 88 = some 8 := by kernel_rfl
@[go_sem] theorem izero88 : izero Try.prog 88 = some .nilfn := by kernel_rfl
@[go_sem] theorem und85 : Try.prog.underlying 85 = some (.struct #[{ name := "pairs", type := 80, offset := 0, embedded := true, tag := "", pkgPath := "turndown/locks", byteOffset := 0 }, { name := "colouring", type := 69, offset := 1, embedded := true, tag := "", pkgPath := "turndown/locks", byteOffset := 8 }]) := Try.underlying85
@[go_sem] theorem isz85 : isz Try.prog 85 = some 7 := by kernel_rfl
@[go_sem] theorem ibytes85 : ibytes Try.prog 85 = some 56 := by kernel_rfl
@[go_sem] theorem izero85 : izero Try.prog 85 = some (.agg [I 0, I 0, I 0, I 0, I 0, I 0, I 0]) := by kernel_rfl
@[go_sem] theorem own3 : cfg.own 3 = false := rfl
@[go_sem] theorem kn3 : cfg.keepNil 3 = false := rfl
@[go_sem] theorem shr3 : cfg.shared 3 = false := by kernel_rfl
@[go_sem] theorem own4 : cfg.own 4 = false := rfl
@[go_sem] theorem kn4 : cfg.keepNil 4 = false := rfl
@[go_sem] theorem shr4 : cfg.shared 4 = false := by kernel_rfl
@[go_sem] theorem own5 : cfg.own 5 = false := rfl
@[go_sem] theorem kn5 : cfg.keepNil 5 = false := rfl
@[go_sem] theorem shr5 : cfg.shared 5 = false := by kernel_rfl
@[go_sem] theorem own6 : cfg.own 6 = false := rfl
@[go_sem] theorem kn6 : cfg.keepNil 6 = false := rfl
@[go_sem] theorem shr6 : cfg.shared 6 = false := by kernel_rfl
@[go_sem] theorem own7 : cfg.own 7 = false := rfl
@[go_sem] theorem kn7 : cfg.keepNil 7 = false := rfl
@[go_sem] theorem shr7 : cfg.shared 7 = false := by kernel_rfl
@[go_sem] theorem own8 : cfg.own 8 = false := rfl
@[go_sem] theorem kn8 : cfg.keepNil 8 = false := rfl
@[go_sem] theorem shr8 : cfg.shared 8 = false := by kernel_rfl
@[go_sem] theorem own9 : cfg.own 9 = false := rfl
@[go_sem] theorem kn9 : cfg.keepNil 9 = false := rfl
@[go_sem] theorem shr9 : cfg.shared 9 = false := by kernel_rfl
@[go_sem] theorem own10 : cfg.own 10 = false := rfl
@[go_sem] theorem kn10 : cfg.keepNil 10 = false := rfl
@[go_sem] theorem shr10 : cfg.shared 10 = false := by kernel_rfl
theorem ok11 : funcOk cfg Try.f11 (Try.f11.body.getD .skip) = true := by kernel_rfl
@[go_sem] theorem own11 : cfg.own 11 = false := rfl
@[go_sem] theorem kn11 : cfg.keepNil 11 = false := rfl
@[go_sem] theorem shr11 : cfg.shared 11 = false := by kernel_rfl
theorem ok12 : funcOk cfg Try.f12 (Try.f12.body.getD .skip) = true := by kernel_rfl
@[go_sem] theorem own12 : cfg.own 12 = false := rfl
@[go_sem] theorem kn12 : cfg.keepNil 12 = false := rfl
@[go_sem] theorem shr12 : cfg.shared 12 = false := by kernel_rfl
@[go_sem] theorem own13 : cfg.own 13 = true := rfl
@[go_sem] theorem kn13 : cfg.keepNil 13 = false := rfl
@[go_sem] theorem shr13 : cfg.shared 13 = false := by kernel_rfl
@[go_sem] theorem own14 : cfg.own 14 = false := rfl
@[go_sem] theorem kn14 : cfg.keepNil 14 = false := rfl
@[go_sem] theorem shr14 : cfg.shared 14 = false := by kernel_rfl
theorem ok15 : funcOk cfg Try.f15 (Try.f15.body.getD .skip) = true := by kernel_rfl
@[go_sem] theorem own15 : cfg.own 15 = false := rfl
@[go_sem] theorem kn15 : cfg.keepNil 15 = false := rfl
@[go_sem] theorem shr15 : cfg.shared 15 = false := by kernel_rfl
theorem ok16 : funcOk cfg Try.f16 (Try.f16.body.getD .skip) = true := by kernel_rfl
@[go_sem] theorem own16 : cfg.own 16 = false := rfl
@[go_sem] theorem kn16 : cfg.keepNil 16 = false := rfl
@[go_sem] theorem shr16 : cfg.shared 16 = false := by kernel_rfl
@[go_sem] theorem own17 : cfg.own 17 = false := rfl
@[go_sem] theorem kn17 : cfg.keepNil 17 = false := rfl
@[go_sem] theorem shr17 : cfg.shared 17 = false := by kernel_rfl
@[go_sem] theorem own18 : cfg.own 18 = false := rfl
@[go_sem] theorem kn18 : cfg.keepNil 18 = false := rfl
@[go_sem] theorem shr18 : cfg.shared 18 = false := by kernel_rfl
theorem ok19 : funcOk cfg Try.f19 (Try.f19.body.getD .skip) = true := by kernel_rfl
@[go_sem] theorem own19 : cfg.own 19 = false := rfl
@[go_sem] theorem kn19 : cfg.keepNil 19 = false := rfl
@[go_sem] theorem shr19 : cfg.shared 19 = false := by kernel_rfl
theorem ok20 : funcOk cfg Try.f20 (Try.f20.body.getD .skip) = true := by kernel_rfl
@[go_sem] theorem own20 : cfg.own 20 = false := rfl
@[go_sem] theorem kn20 : cfg.keepNil 20 = false := rfl
@[go_sem] theorem shr20 : cfg.shared 20 = false := by kernel_rfl
@[go_sem] theorem own21 : cfg.own 21 = false := rfl
@[go_sem] theorem kn21 : cfg.keepNil 21 = false := rfl
@[go_sem] theorem shr21 : cfg.shared 21 = false := by kernel_rfl
@[go_sem] theorem own22 : cfg.own 22 = false := rfl
@[go_sem] theorem kn22 : cfg.keepNil 22 = false := rfl
@[go_sem] theorem shr22 : cfg.shared 22 = false := by kernel_rfl
theorem ok23 : funcOk cfg Try.f23 (Try.f23.body.getD .skip) = true := by kernel_rfl
@[go_sem] theorem own23 : cfg.own 23 = false := rfl
@[go_sem] theorem kn23 : cfg.keepNil 23 = false := rfl
@[go_sem] theorem shr23 : cfg.shared 23 = false := by kernel_rfl
theorem ok24 : funcOk cfg Try.f24 (Try.f24.body.getD .skip) = true := by kernel_rfl
@[go_sem] theorem own24 : cfg.own 24 = false := rfl
@[go_sem] theorem kn24 : cfg.keepNil 24 = false := rfl
@[go_sem] theorem shr24 : cfg.shared 24 = false := by kernel_rfl
@[go_sem] theorem own25 : cfg.own 25 = false := rfl
@[go_sem] theorem kn25 : cfg.keepNil 25 = false := rfl
@[go_sem] theorem shr25 : cfg.shared 25 = false := by kernel_rfl
@[go_sem] theorem own26 : cfg.own 26 = false := rfl
@[go_sem] theorem kn26 : cfg.keepNil 26 = false := rfl
@[go_sem] theorem shr26 : cfg.shared 26 = false := by kernel_rfl
@[go_sem] theorem own27 : cfg.own 27 = false := rfl
@[go_sem] theorem kn27 : cfg.keepNil 27 = false := rfl
@[go_sem] theorem shr27 : cfg.shared 27 = false := by kernel_rfl
@[go_sem] theorem own28 : cfg.own 28 = false := rfl
@[go_sem] theorem kn28 : cfg.keepNil 28 = false := rfl
@[go_sem] theorem shr28 : cfg.shared 28 = false := by kernel_rfl
@[go_sem] theorem own29 : cfg.own 29 = false := rfl
@[go_sem] theorem kn29 : cfg.keepNil 29 = false := rfl
@[go_sem] theorem shr29 : cfg.shared 29 = false := by kernel_rfl
@[go_sem] theorem own30 : cfg.own 30 = false := rfl
@[go_sem] theorem kn30 : cfg.keepNil 30 = false := rfl
@[go_sem] theorem shr30 : cfg.shared 30 = false := by kernel_rfl
theorem ok31 : funcOk cfg Try.f31 (Try.f31.body.getD .skip) = true := by kernel_rfl
@[go_sem] theorem own31 : cfg.own 31 = false := rfl
@[go_sem] theorem kn31 : cfg.keepNil 31 = false := rfl
@[go_sem] theorem shr31 : cfg.shared 31 = false := by kernel_rfl
theorem ok32 : funcOk cfg Try.f32 (Try.f32.body.getD .skip) = true := by kernel_rfl
@[go_sem] theorem own32 : cfg.own 32 = false := rfl
@[go_sem] theorem kn32 : cfg.keepNil 32 = false := rfl
@[go_sem] theorem shr32 : cfg.shared 32 = false := by kernel_rfl
@[go_sem] theorem own33 : cfg.own 33 = false := rfl
@[go_sem] theorem kn33 : cfg.keepNil 33 = false := rfl
@[go_sem] theorem shr33 : cfg.shared 33 = false := by kernel_rfl
theorem ok34 : funcOk cfg Try.f34 (Try.f34.body.getD .skip) = true := by kernel_rfl
@[go_sem] theorem own34 : cfg.own 34 = false := rfl
@[go_sem] theorem kn34 : cfg.keepNil 34 = false := rfl
@[go_sem] theorem shr34 : cfg.shared 34 = false := by kernel_rfl
@[go_sem] theorem own35 : cfg.own 35 = false := rfl
@[go_sem] theorem kn35 : cfg.keepNil 35 = false := rfl
@[go_sem] theorem shr35 : cfg.shared 35 = false := by kernel_rfl
theorem ok36 : funcOk cfg Try.f36 (Try.f36.body.getD .skip) = true := by kernel_rfl
@[go_sem] theorem own36 : cfg.own 36 = false := rfl
@[go_sem] theorem kn36 : cfg.keepNil 36 = false := rfl
@[go_sem] theorem shr36 : cfg.shared 36 = false := by kernel_rfl
theorem ok37 : funcOk cfg Try.f37 (Try.f37.body.getD .skip) = true := by kernel_rfl
@[go_sem] theorem own37 : cfg.own 37 = false := rfl
@[go_sem] theorem kn37 : cfg.keepNil 37 = false := rfl
@[go_sem] theorem shr37 : cfg.shared 37 = false := by kernel_rfl
theorem ok38 : funcOk cfg Try.f38 (Try.f38.body.getD .skip) = true := by kernel_rfl
@[go_sem] theorem own38 : cfg.own 38 = false := rfl
@[go_sem] theorem kn38 : cfg.keepNil 38 = false := rfl
@[go_sem] theorem shr38 : cfg.shared 38 = false := by kernel_rfl
@[go_sem] theorem own39 : cfg.own 39 = false := rfl
@[go_sem] theorem kn39 : cfg.keepNil 39 = false := rfl
@[go_sem] theorem shr39 : cfg.shared 39 = false := by kernel_rfl
@[go_sem] theorem own40 : cfg.own 40 = false := rfl
@[go_sem] theorem kn40 : cfg.keepNil 40 = false := rfl
@[go_sem] theorem shr40 : cfg.shared 40 = false := by kernel_rfl
@[go_sem] theorem own41 : cfg.own 41 = false := rfl
@[go_sem] theorem kn41 : cfg.keepNil 41 = false := rfl
@[go_sem] theorem shr41 : cfg.shared 41 = false := by kernel_rfl
@[go_sem] theorem own42 : cfg.own 42 = false := rfl
@[go_sem] theorem kn42 : cfg.keepNil 42 = false := rfl
@[go_sem] theorem shr42 : cfg.shared 42 = false := by kernel_rfl
theorem ok43 : funcOk cfg Try.f43 (Try.f43.body.getD .skip) = true := by kernel_rfl
@[go_sem] theorem own43 : cfg.own 43 = false := rfl
@[go_sem] theorem kn43 : cfg.keepNil 43 = false := rfl
@[go_sem] theorem shr43 : cfg.shared 43 = false := by kernel_rfl
theorem ok44 : funcOk cfg Try.f44 (Try.f44.body.getD .skip) = true := by kernel_rfl
@[go_sem] theorem own44 : cfg.own 44 = false := rfl
@[go_sem] theorem kn44 : cfg.keepNil 44 = false := rfl
@[go_sem] theorem shr44 : cfg.shared 44 = false := by kernel_rfl
theorem ok45 : funcOk cfg Try.f45 (Try.f45.body.getD .skip) = true := by kernel_rfl
@[go_sem] theorem own45 : cfg.own 45 = false := rfl
@[go_sem] theorem kn45 : cfg.keepNil 45 = false := rfl
@[go_sem] theorem shr45 : cfg.shared 45 = false := by kernel_rfl
theorem ok46 : funcOk cfg Try.f46 (Try.f46.body.getD .skip) = true := by kernel_rfl
@[go_sem] theorem own46 : cfg.own 46 = false := rfl
@[go_sem] theorem kn46 : cfg.keepNil 46 = false := rfl
@[go_sem] theorem shr46 : cfg.shared 46 = false := by kernel_rfl
@[go_sem] theorem own47 : cfg.own 47 = false := rfl
@[go_sem] theorem kn47 : cfg.keepNil 47 = false := rfl
@[go_sem] theorem shr47 : cfg.shared 47 = false := by kernel_rfl
theorem ok48 : funcOk cfg Try.f48 (Try.f48.body.getD .skip) = true := by kernel_rfl
@[go_sem] theorem own48 : cfg.own 48 = false := rfl
@[go_sem] theorem kn48 : cfg.keepNil 48 = false := rfl
@[go_sem] theorem shr48 : cfg.shared 48 = false := by kernel_rfl
theorem ok49 : funcOk cfg Try.f49 (Try.f49.body.getD .skip) = true := by kernel_rfl
@[go_sem] theorem own49 : cfg.own 49 = false := rfl
@[go_sem] theorem kn49 : cfg.keepNil 49 = false := rfl
@[go_sem] theorem shr49 : cfg.shared 49 = false := by kernel_rfl
@[go_sem] theorem own50 : cfg.own 50 = false := rfl
@[go_sem] theorem kn50 : cfg.keepNil 50 = false := rfl
@[go_sem] theorem shr50 : cfg.shared 50 = false := by kernel_rfl
theorem ok51 : funcOk cfg Try.f51 (Try.f51.body.getD .skip) = true := by kernel_rfl
@[go_sem] theorem own51 : cfg.own 51 = true := rfl
@[go_sem] theorem kn51 : cfg.keepNil 51 = false := rfl
@[go_sem] theorem shr51 : cfg.shared 51 = false := by kernel_rfl
theorem ok52 : funcOk cfg Try.f52 (Try.f52.body.getD .skip) = true := by kernel_rfl
@[go_sem] theorem own52 : cfg.own 52 = false := rfl
@[go_sem] theorem kn52 : cfg.keepNil 52 = false := rfl
@[go_sem] theorem shr52 : cfg.shared 52 = false := by kernel_rfl
theorem ok53 : funcOk cfg Try.f53 (Try.f53.body.getD .skip) = true := by kernel_rfl
@[go_sem] theorem own53 : cfg.own 53 = false := rfl
@[go_sem] theorem kn53 : cfg.keepNil 53 = false := rfl
@[go_sem] theorem shr53 : cfg.shared 53 = false := by kernel_rfl
@[go_sem] theorem own54 : cfg.own 54 = false := rfl
@[go_sem] theorem kn54 : cfg.keepNil 54 = false := rfl
@[go_sem] theorem shr54 : cfg.shared 54 = false := by kernel_rfl
@[go_sem] theorem own55 : cfg.own 55 = false := rfl
@[go_sem] theorem kn55 : cfg.keepNil 55 = false := rfl
@[go_sem] theorem shr55 : cfg.shared 55 = false := by kernel_rfl
theorem ok56 : funcOk cfg Try.f56 (Try.f56.body.getD .skip) = true := by kernel_rfl
@[go_sem] theorem own56 : cfg.own 56 = false := rfl
@[go_sem] theorem kn56 : cfg.keepNil 56 = false := rfl
@[go_sem] theorem shr56 : cfg.shared 56 = false := by kernel_rfl
theorem ok57 : funcOk cfg Try.f57 (Try.f57.body.getD .skip) = true := by kernel_rfl
@[go_sem] theorem own57 : cfg.own 57 = false := rfl
@[go_sem] theorem kn57 : cfg.keepNil 57 = false := rfl
@[go_sem] theorem shr57 : cfg.shared 57 = true := by kernel_rfl
theorem ok58 : funcOk cfg Try.f58 (Try.f58.body.getD .skip) = true := by kernel_rfl
@[go_sem] theorem own58 : cfg.own 58 = false := rfl
@[go_sem] theorem kn58 : cfg.keepNil 58 = false := rfl
@[go_sem] theorem shr58 : cfg.shared 58 = false := by kernel_rfl
theorem ok59 : funcOk cfg Try.f59 (Try.f59.body.getD .skip) = true := by kernel_rfl
@[go_sem] theorem own59 : cfg.own 59 = false := rfl
@[go_sem] theorem kn59 : cfg.keepNil 59 = false := rfl
@[go_sem] theorem shr59 : cfg.shared 59 = false := by kernel_rfl
end Go.Proofs.Ytkjdnnedncomgaa
