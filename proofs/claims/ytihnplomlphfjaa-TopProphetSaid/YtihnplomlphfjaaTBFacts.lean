/-
  Facts about the program's types and functions that the walks lean on.
-/
import Derived.Test.YtihnplomlphfjaaAmMap
import Derived.Test.YtihnplomlphfjaaRows
set_option linter.unusedVariables false
set_option linter.unusedSimpArgs false
namespace Go.Proofs.Ytihnplomlphfjaa.B
open Go Go.Am

/-- Who shares memory with its caller, and who hands its result over. -/
def cfg : Cfg := { own := fun f => [].contains f, keepNil := fun f => [].contains f, shared := fun f => [27,43,44,47].contains f, ext := fun _ _ => none, wr := fun a b => if a == 9 && b == 12 then [11] else [], strict := fun a b => (a == 8 && b == 9) || (a == 9 && b == 12) || (a == 11 && b == 7) || (a == 3 && b == 4) || (a == 9 && b == 8) }
@[go_sem] theorem cfg_deep : cfg.deep = false := by kernel_rfl
@[go_sem] theorem cfg_wr_8_9 : cfg.wr 8 9 = [] := rfl
@[go_sem] theorem cfg_wr_9_12 : cfg.wr 9 12 = [11] := rfl
@[go_sem] theorem cfg_wr_11_7 : cfg.wr 11 7 = [] := rfl
@[go_sem] theorem cfg_wr_3_4 : cfg.wr 3 4 = [] := rfl
@[go_sem] theorem cfg_wr_9_8 : cfg.wr 9 8 = [] := rfl
@[go_sem] theorem cfg_wr_1_12 : cfg.wr 1 12 = [] := rfl
@[go_sem] theorem cfg_strict (a b : Nat) : cfg.strict a b = ((a == 8 && b == 9) || (a == 9 && b == 12) || (a == 11 && b == 7) || (a == 3 && b == 4) || (a == 9 && b == 8)) := rfl
@[go_sem] theorem und3 : Try.prog.underlying 3 = some (TypeDesc.int IntKind.i64) := Try.underlying3
@[go_sem] theorem isz3 : isz Try.prog 3 = some 1 := by kernel_rfl
@[go_sem] theorem ibytes3 : ibytes Try.prog 3 = some 8 := by kernel_rfl
@[go_sem] theorem izero3 : izero Try.prog 3 = some (I 0) := by kernel_rfl
@[go_sem] theorem und4 : Try.prog.underlying 4 = some TypeDesc.bool := Try.underlying4
@[go_sem] theorem isz4 : isz Try.prog 4 = some 1 := by kernel_rfl
@[go_sem] theorem ibytes4 : ibytes Try.prog 4 = some 1 := by kernel_rfl
@[go_sem] theorem izero4 : izero Try.prog 4 = some (.bool false) := by kernel_rfl
@[go_sem] theorem und22 : Try.prog.underlying 24 = some (TypeDesc.slice 23) := Try.underlying24
@[go_sem] theorem isz22 : isz Try.prog 24 = some 1 := by kernel_rfl
@[go_sem] theorem ibytes22 : ibytes Try.prog 24 = some 24 := by kernel_rfl
@[go_sem] theorem izero22 : izero Try.prog 24 = some (.nil) := by kernel_rfl
@[go_sem] theorem und24 : Try.prog.underlying 26 = some (TypeDesc.struct #[{ name := "Parents", type := 24, offset := 0, embedded := false, tag := "", pkgPath := "", byteOffset := 0 }, { name := "Table", type := 24, offset := 1, embedded := false, tag := "", pkgPath := "", byteOffset := 24 }]) := Try.underlying26
@[go_sem] theorem isz24 : isz Try.prog 26 = some 2 := by kernel_rfl
@[go_sem] theorem ibytes24 : ibytes Try.prog 26 = some 48 := by kernel_rfl
@[go_sem] theorem izero24 : izero Try.prog 26 = some (.agg [.nil, .nil]) := by kernel_rfl
@[go_sem] theorem und25 : Try.prog.underlying 23 = some (TypeDesc.slice 3) := Try.underlying23
@[go_sem] theorem isz25 : isz Try.prog 23 = some 1 := by kernel_rfl
@[go_sem] theorem ibytes25 : ibytes Try.prog 23 = some 24 := by kernel_rfl
@[go_sem] theorem izero25 : izero Try.prog 23 = some (.nil) := by kernel_rfl
@[go_sem] theorem und29 : Try.prog.underlying 32 = some (TypeDesc.struct #[{ name := "Num", type := 3, offset := 0, embedded := false, tag := "", pkgPath := "", byteOffset := 0 }, { name := "Den", type := 3, offset := 1, embedded := false, tag := "", pkgPath := "", byteOffset := 8 }]) := Try.underlying32
@[go_sem] theorem isz29 : isz Try.prog 32 = some 2 := by kernel_rfl
@[go_sem] theorem ibytes29 : ibytes Try.prog 32 = some 16 := by kernel_rfl
@[go_sem] theorem izero29 : izero Try.prog 32 = some (.agg [I 0, I 0]) := by kernel_rfl
@[go_sem] theorem isz30 : isz Try.prog 33 = some 1 := by kernel_rfl
@[go_sem] theorem ibytes30 : ibytes Try.prog 33 = some 8 := by kernel_rfl
@[go_sem] theorem izero30 : izero Try.prog 33 = some (I 0) := by kernel_rfl
@[go_sem] theorem und38 : Try.prog.underlying 22 = some (TypeDesc.slice 29) := Try.underlying22
@[go_sem] theorem isz38 : isz Try.prog 22 = some 1 := by kernel_rfl
@[go_sem] theorem ibytes38 : ibytes Try.prog 22 = some 24 := by kernel_rfl
@[go_sem] theorem izero38 : izero Try.prog 22 = some (.nil) := by kernel_rfl
@[go_sem] theorem und46 : Try.prog.underlying 29 = some (TypeDesc.array 2 3) := Try.underlying29
@[go_sem] theorem isz46 : isz Try.prog 29 = some 2 := by kernel_rfl
@[go_sem] theorem ibytes46 : ibytes Try.prog 29 = some 16 := by kernel_rfl
@[go_sem] theorem izero46 : izero Try.prog 29 = some (.agg [I 0, I 0]) := by kernel_rfl
@[go_sem] theorem und79 : Try.prog.underlying 55 = some (TypeDesc.struct #[{ name := "Network", type := 26, offset := 0, embedded := true, tag := "", pkgPath := "", byteOffset := 0 }, { name := "n", type := 3, offset := 2, embedded := false, tag := "", pkgPath := "turndown/bayes", byteOffset := 48 }]) := Try.underlying55
@[go_sem] theorem isz79 : isz Try.prog 55 = some 3 := by kernel_rfl
@[go_sem] theorem ibytes79 : ibytes Try.prog 55 = some 56 := by kernel_rfl
@[go_sem] theorem izero79 : izero Try.prog 55 = some (.agg [.nil, .nil, I 0]) := by kernel_rfl
@[go_sem] theorem isz84 : isz Try.prog 60 = some 1 := by kernel_rfl
@[go_sem] theorem ibytes84 : ibytes Try.prog 60 = some 8 := by kernel_rfl
@[go_sem] theorem izero84 : izero Try.prog 60 = some (.nilfn) := by kernel_rfl
@[go_sem] theorem und86 : Try.prog.underlying 62 = some (TypeDesc.array 10 3) := Try.underlying62
@[go_sem] theorem isz86 : isz Try.prog 62 = some 10 := by kernel_rfl
@[go_sem] theorem ibytes86 : ibytes Try.prog 62 = some 80 := by kernel_rfl
@[go_sem] theorem izero86 : izero Try.prog 62 = some (.agg [I 0, I 0, I 0, I 0, I 0, I 0, I 0, I 0, I 0, I 0]) := by kernel_rfl
@[go_sem] theorem isz90 : isz Try.prog 66 = some 1 := by kernel_rfl
@[go_sem] theorem ibytes90 : ibytes Try.prog 66 = some 8 := by kernel_rfl
@[go_sem] theorem izero90 : izero Try.prog 66 = some (.nilmp) := by kernel_rfl
@[go_sem] theorem isz108 : isz Try.prog 85 = some 1 := by kernel_rfl
@[go_sem] theorem ibytes108 : ibytes Try.prog 85 = some 8 := by kernel_rfl
@[go_sem] theorem izero108 : izero Try.prog 85 = some (.nilfn) := by kernel_rfl
@[go_sem] theorem isz116 : isz Try.prog 87 = some 1 := by kernel_rfl
@[go_sem] theorem ibytes116 : ibytes Try.prog 87 = some 8 := by kernel_rfl
@[go_sem] theorem izero116 : izero Try.prog 87 = some (.nilfn) := by kernel_rfl
theorem ok18 : funcOk cfg Try.f10 (Try.f10.body.getD .skip) = true := by kernel_rfl
@[go_sem] theorem own18 : cfg.own 10 = false := rfl
@[go_sem] theorem kn18 : cfg.keepNil 10 = false := rfl
@[go_sem] theorem shr18 : cfg.shared 10 = false := by kernel_rfl
@[go_sem] theorem own23 : cfg.own 12 = false := rfl
@[go_sem] theorem kn23 : cfg.keepNil 12 = false := rfl
@[go_sem] theorem shr23 : cfg.shared 12 = false := by kernel_rfl
theorem ok46 : funcOk cfg Try.f19 (Try.f19.body.getD .skip) = true := by kernel_rfl
@[go_sem] theorem own46 : cfg.own 19 = false := rfl
@[go_sem] theorem kn46 : cfg.keepNil 19 = false := rfl
@[go_sem] theorem shr46 : cfg.shared 19 = false := by kernel_rfl
theorem ok47 : funcOk cfg Try.f20 (Try.f20.body.getD .skip) = true := by kernel_rfl
@[go_sem] theorem own47 : cfg.own 20 = false := rfl
@[go_sem] theorem kn47 : cfg.keepNil 20 = false := rfl
@[go_sem] theorem shr47 : cfg.shared 20 = false := by kernel_rfl
theorem ok48 : funcOk cfg Try.f21 (Try.f21.body.getD .skip) = true := by kernel_rfl
@[go_sem] theorem own48 : cfg.own 21 = false := rfl
@[go_sem] theorem kn48 : cfg.keepNil 21 = false := rfl
@[go_sem] theorem shr48 : cfg.shared 21 = false := by kernel_rfl
theorem ok49 : funcOk cfg Try.f22 (Try.f22.body.getD .skip) = true := by kernel_rfl
@[go_sem] theorem own49 : cfg.own 22 = false := rfl
@[go_sem] theorem kn49 : cfg.keepNil 22 = false := rfl
@[go_sem] theorem shr49 : cfg.shared 22 = false := by kernel_rfl
theorem ok50 : funcOk cfg Try.f23 (Try.f23.body.getD .skip) = true := by kernel_rfl
@[go_sem] theorem own50 : cfg.own 23 = false := rfl
@[go_sem] theorem kn50 : cfg.keepNil 23 = false := rfl
@[go_sem] theorem shr50 : cfg.shared 23 = false := by kernel_rfl
theorem ok51 : funcOk cfg Try.f24 (Try.f24.body.getD .skip) = true := by kernel_rfl
@[go_sem] theorem own51 : cfg.own 24 = false := rfl
@[go_sem] theorem kn51 : cfg.keepNil 24 = false := rfl
@[go_sem] theorem shr51 : cfg.shared 24 = false := by kernel_rfl
theorem ok52 : funcOk cfg Try.f25 (Try.f25.body.getD .skip) = true := by kernel_rfl
@[go_sem] theorem own52 : cfg.own 25 = false := rfl
@[go_sem] theorem kn52 : cfg.keepNil 25 = false := rfl
@[go_sem] theorem shr52 : cfg.shared 25 = false := by kernel_rfl
@[go_sem] theorem own54 : cfg.own 27 = false := rfl
@[go_sem] theorem kn54 : cfg.keepNil 27 = false := rfl
@[go_sem] theorem shr54 : cfg.shared 27 = true := by kernel_rfl
@[go_sem] theorem own55 : cfg.own 28 = false := rfl
@[go_sem] theorem kn55 : cfg.keepNil 28 = false := rfl
@[go_sem] theorem shr55 : cfg.shared 28 = false := by kernel_rfl
theorem ok64 : funcOk cfg Try.f43 (Try.f43.body.getD .skip) = true := by kernel_rfl
@[go_sem] theorem own64 : cfg.own 43 = false := rfl
@[go_sem] theorem kn64 : cfg.keepNil 43 = false := rfl
@[go_sem] theorem shr64 : cfg.shared 43 = true := by kernel_rfl
theorem ok71 : funcOk cfg Try.f41 (Try.f41.body.getD .skip) = true := by kernel_rfl
@[go_sem] theorem own71 : cfg.own 41 = false := rfl
@[go_sem] theorem kn71 : cfg.keepNil 41 = false := rfl
@[go_sem] theorem shr71 : cfg.shared 41 = false := by kernel_rfl
theorem ok72 : funcOk cfg Try.f42 (Try.f42.body.getD .skip) = true := by kernel_rfl
@[go_sem] theorem own72 : cfg.own 42 = false := rfl
@[go_sem] theorem kn72 : cfg.keepNil 42 = false := rfl
@[go_sem] theorem shr72 : cfg.shared 42 = false := by kernel_rfl
theorem ok73 : funcOk cfg Try.f44 (Try.f44.body.getD .skip) = true := by kernel_rfl
@[go_sem] theorem own73 : cfg.own 44 = false := rfl
@[go_sem] theorem kn73 : cfg.keepNil 44 = false := rfl
@[go_sem] theorem shr73 : cfg.shared 44 = true := by kernel_rfl
theorem ok77 : funcOk cfg Try.f47 (Try.f47.body.getD .skip) = true := by kernel_rfl
@[go_sem] theorem own77 : cfg.own 47 = false := rfl
@[go_sem] theorem kn77 : cfg.keepNil 47 = false := rfl
@[go_sem] theorem shr77 : cfg.shared 47 = true := by kernel_rfl
end Go.Proofs.Ytihnplomlphfjaa.B
