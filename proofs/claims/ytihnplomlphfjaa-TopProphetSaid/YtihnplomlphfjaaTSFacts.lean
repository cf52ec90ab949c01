/-
  Facts about the program's types and functions that the walks lean on.
-/
import Derived.Test.YtihnplomlphfjaaAmMap
import Derived.Test.YtihnplomlphfjaaRows
set_option linter.unusedVariables false
set_option linter.unusedSimpArgs false
namespace Go.Proofs.Ytihnplomlphfjaa.S
open Go Go.Am

/-- Who shares memory with its caller, and who hands its result over. -/
def cfg : Cfg := { own := fun f => [].contains f, keepNil := fun f => [].contains f, shared := fun f => [45].contains f, ext := fun _ _ => none, wr := fun a b => if a == 7 && b == 15 then [5] else [], strict := fun a b => (a == 1 && b == 9) || (a == 3 && b == 6) || (a == 7 && b == 15) }
@[go_sem] theorem cfg_deep : cfg.deep = false := by kernel_rfl
@[go_sem] theorem cfg_wr_1_9 : cfg.wr 1 9 = [] := rfl
@[go_sem] theorem cfg_wr_3_6 : cfg.wr 3 6 = [] := rfl
@[go_sem] theorem cfg_wr_7_15 : cfg.wr 7 15 = [5] := rfl
@[go_sem] theorem cfg_strict (a b : Nat) : cfg.strict a b = ((a == 1 && b == 9) || (a == 3 && b == 6) || (a == 7 && b == 15)) := rfl
@[go_sem] theorem und3 : Try.prog.underlying 3 = some (TypeDesc.int IntKind.i64) := Try.underlying3
@[go_sem] theorem isz3 : isz Try.prog 3 = some 1 := by kernel_rfl
@[go_sem] theorem ibytes3 : ibytes Try.prog 3 = some 8 := by kernel_rfl
@[go_sem] theorem izero3 : izero Try.prog 3 = some (I 0) := by kernel_rfl
@[go_sem] theorem und4 : Try.prog.underlying 4 = some TypeDesc.bool := Try.underlying4
@[go_sem] theorem isz4 : isz Try.prog 4 = some 1 := by kernel_rfl
@[go_sem] theorem ibytes4 : ibytes Try.prog 4 = some 1 := by kernel_rfl
@[go_sem] theorem izero4 : izero Try.prog 4 = some (.bool false) := by kernel_rfl
@[go_sem] theorem und22 : Try.prog.underlying 24 = some (TypeDesc.slice 23) := Try.underlying24
@[go_sem] theorem isz22 : isz Try.prog 24 = some 1 := by kernel_rfl
@[go_sem] theorem ibytes22 : ibytes Try.prog 24 = some 24 := by kernel_rfl
@[go_sem] theorem izero22 : izero Try.prog 24 = some (.nil) := by kernel_rfl
@[go_sem] theorem isz23 : isz Try.prog 23 = some 1 := by kernel_rfl
@[go_sem] theorem ibytes23 : ibytes Try.prog 23 = some 24 := by kernel_rfl
@[go_sem] theorem izero23 : izero Try.prog 23 = some (.nil) := by kernel_rfl
@[go_sem] theorem und25 : Try.prog.underlying 44 = some (TypeDesc.struct #[{ name := "Next", type := 24, offset := 0, embedded := false, tag := "", pkgPath := "", byteOffset := 0 }, { name := "Pay", type := 23, offset := 1, embedded := false, tag := "", pkgPath := "", byteOffset := 24 }, { name := "Cost", type := 23, offset := 2, embedded := false, tag := "", pkgPath := "", byteOffset := 48 }]) := Try.underlying44
@[go_sem] theorem isz25 : isz Try.prog 44 = some 3 := by kernel_rfl
@[go_sem] theorem ibytes25 : ibytes Try.prog 44 = some 72 := by kernel_rfl
@[go_sem] theorem izero25 : izero Try.prog 44 = some (.agg [.nil, .nil, .nil]) := by kernel_rfl
@[go_sem] theorem und26 : Try.prog.underlying 29 = some (TypeDesc.array 2 3) := Try.underlying29
@[go_sem] theorem isz26 : isz Try.prog 29 = some 2 := by kernel_rfl
@[go_sem] theorem ibytes26 : ibytes Try.prog 29 = some 16 := by kernel_rfl
@[go_sem] theorem izero26 : izero Try.prog 29 = some (.agg [I 0, I 0]) := by kernel_rfl
@[go_sem] theorem isz28 : isz Try.prog 45 = some 1 := by kernel_rfl
@[go_sem] theorem ibytes28 : ibytes Try.prog 45 = some 24 := by kernel_rfl
@[go_sem] theorem izero28 : izero Try.prog 45 = some (.nil) := by kernel_rfl
@[go_sem] theorem und29 : Try.prog.underlying 33 = some (TypeDesc.int IntKind.i64) := Try.underlying33
@[go_sem] theorem isz29 : isz Try.prog 33 = some 1 := by kernel_rfl
@[go_sem] theorem ibytes29 : ibytes Try.prog 33 = some 8 := by kernel_rfl
@[go_sem] theorem izero29 : izero Try.prog 33 = some (I 0) := by kernel_rfl
@[go_sem] theorem und37 : Try.prog.underlying 32 = some (TypeDesc.struct #[{ name := "Num", type := 3, offset := 0, embedded := false, tag := "", pkgPath := "", byteOffset := 0 }, { name := "Den", type := 3, offset := 1, embedded := false, tag := "", pkgPath := "", byteOffset := 8 }]) := Try.underlying32
@[go_sem] theorem isz37 : isz Try.prog 32 = some 2 := by kernel_rfl
@[go_sem] theorem ibytes37 : ibytes Try.prog 32 = some 16 := by kernel_rfl
@[go_sem] theorem izero37 : izero Try.prog 32 = some (.agg [I 0, I 0]) := by kernel_rfl
@[go_sem] theorem und64 : Try.prog.underlying 27 = some (TypeDesc.slice 22) := Try.underlying27
@[go_sem] theorem isz64 : isz Try.prog 27 = some 1 := by kernel_rfl
@[go_sem] theorem ibytes64 : ibytes Try.prog 27 = some 24 := by kernel_rfl
@[go_sem] theorem izero64 : izero Try.prog 27 = some (.nil) := by kernel_rfl
@[go_sem] theorem und78 : Try.prog.underlying 22 = some (TypeDesc.slice 29) := Try.underlying22
@[go_sem] theorem isz78 : isz Try.prog 22 = some 1 := by kernel_rfl
@[go_sem] theorem ibytes78 : ibytes Try.prog 22 = some 24 := by kernel_rfl
@[go_sem] theorem izero78 : izero Try.prog 22 = some (.nil) := by kernel_rfl
@[go_sem] theorem isz82 : isz Try.prog 73 = some 6 := by kernel_rfl
@[go_sem] theorem ibytes82 : ibytes Try.prog 73 = some 6 := by kernel_rfl
@[go_sem] theorem izero82 : izero Try.prog 73 = some (.agg [.bool false, .bool false, .bool false, .bool false, .bool false, .bool false]) := by kernel_rfl
@[go_sem] theorem isz85 : isz Try.prog 76 = some 7 := by kernel_rfl
@[go_sem] theorem ibytes85 : ibytes Try.prog 76 = some 56 := by kernel_rfl
@[go_sem] theorem izero85 : izero Try.prog 76 = some (.agg [I 0, I 0, I 0, I 0, I 0, I 0, I 0]) := by kernel_rfl
@[go_sem] theorem isz87 : isz Try.prog 78 = some 42 := by kernel_rfl
@[go_sem] theorem ibytes87 : ibytes Try.prog 78 = some 336 := by kernel_rfl
@[go_sem] theorem izero87 : izero Try.prog 78 = some (.agg [I 0, I 0, I 0, I 0, I 0, I 0, I 0, I 0, I 0, I 0, I 0, I 0, I 0, I 0, I 0, I 0, I 0, I 0, I 0, I 0, I 0, I 0, I 0, I 0, I 0, I 0, I 0, I 0, I 0, I 0, I 0, I 0, I 0, I 0, I 0, I 0, I 0, I 0, I 0, I 0, I 0, I 0]) := by kernel_rfl
@[go_sem] theorem isz97 : isz Try.prog 80 = some 1 := by kernel_rfl
@[go_sem] theorem ibytes97 : ibytes Try.prog 80 = some 8 := by kernel_rfl
@[go_sem] theorem izero97 : izero Try.prog 80 = some (.nilfn) := by kernel_rfl
@[go_sem] theorem own23 : cfg.own 18 = false := rfl
@[go_sem] theorem kn23 : cfg.keepNil 18 = false := rfl
@[go_sem] theorem shr23 : cfg.shared 18 = false := by kernel_rfl
@[go_sem] theorem own29 : cfg.own 13 = false := rfl
@[go_sem] theorem kn29 : cfg.keepNil 13 = false := rfl
@[go_sem] theorem shr29 : cfg.shared 13 = false := by kernel_rfl
theorem ok39 : funcOk cfg Try.f7 (Try.f7.body.getD .skip) = true := by kernel_rfl
@[go_sem] theorem own39 : cfg.own 7 = false := rfl
@[go_sem] theorem kn39 : cfg.keepNil 7 = false := rfl
@[go_sem] theorem shr39 : cfg.shared 7 = false := by kernel_rfl
theorem ok40 : funcOk cfg Try.f8 (Try.f8.body.getD .skip) = true := by kernel_rfl
@[go_sem] theorem own40 : cfg.own 8 = false := rfl
@[go_sem] theorem kn40 : cfg.keepNil 8 = false := rfl
@[go_sem] theorem shr40 : cfg.shared 8 = false := by kernel_rfl
theorem ok48 : funcOk cfg Try.f29 (Try.f29.body.getD .skip) = true := by kernel_rfl
@[go_sem] theorem own48 : cfg.own 29 = false := rfl
@[go_sem] theorem kn48 : cfg.keepNil 29 = false := rfl
@[go_sem] theorem shr48 : cfg.shared 29 = false := by kernel_rfl
theorem ok50 : funcOk cfg Try.f30 (Try.f30.body.getD .skip) = true := by kernel_rfl
@[go_sem] theorem own50 : cfg.own 30 = false := rfl
@[go_sem] theorem kn50 : cfg.keepNil 30 = false := rfl
@[go_sem] theorem shr50 : cfg.shared 30 = false := by kernel_rfl
theorem ok51 : funcOk cfg Try.f40 (Try.f40.body.getD .skip) = true := by kernel_rfl
@[go_sem] theorem own51 : cfg.own 40 = false := rfl
@[go_sem] theorem kn51 : cfg.keepNil 40 = false := rfl
@[go_sem] theorem shr51 : cfg.shared 40 = false := by kernel_rfl
theorem ok52 : funcOk cfg Try.f38 (Try.f38.body.getD .skip) = true := by kernel_rfl
@[go_sem] theorem own52 : cfg.own 38 = false := rfl
@[go_sem] theorem kn52 : cfg.keepNil 38 = false := rfl
@[go_sem] theorem shr52 : cfg.shared 38 = false := by kernel_rfl
@[go_sem] theorem own54 : cfg.own 31 = false := rfl
@[go_sem] theorem kn54 : cfg.keepNil 31 = false := rfl
@[go_sem] theorem shr54 : cfg.shared 31 = false := by kernel_rfl
@[go_sem] theorem own55 : cfg.own 32 = false := rfl
@[go_sem] theorem kn55 : cfg.keepNil 32 = false := rfl
@[go_sem] theorem shr55 : cfg.shared 32 = false := by kernel_rfl
@[go_sem] theorem own56 : cfg.own 33 = false := rfl
@[go_sem] theorem kn56 : cfg.keepNil 33 = false := rfl
@[go_sem] theorem shr56 : cfg.shared 33 = false := by kernel_rfl
theorem ok59 : funcOk cfg Try.f14 (Try.f14.body.getD .skip) = true := by kernel_rfl
@[go_sem] theorem own59 : cfg.own 14 = false := rfl
@[go_sem] theorem kn59 : cfg.keepNil 14 = false := rfl
@[go_sem] theorem shr59 : cfg.shared 14 = false := by kernel_rfl
theorem ok60 : funcOk cfg Try.f15 (Try.f15.body.getD .skip) = true := by kernel_rfl
@[go_sem] theorem own60 : cfg.own 15 = false := rfl
@[go_sem] theorem kn60 : cfg.keepNil 15 = false := rfl
@[go_sem] theorem shr60 : cfg.shared 15 = false := by kernel_rfl
theorem ok61 : funcOk cfg Try.f16 (Try.f16.body.getD .skip) = true := by kernel_rfl
@[go_sem] theorem own61 : cfg.own 16 = false := rfl
@[go_sem] theorem kn61 : cfg.keepNil 16 = false := rfl
@[go_sem] theorem shr61 : cfg.shared 16 = false := by kernel_rfl
theorem ok62 : funcOk cfg Try.f17 (Try.f17.body.getD .skip) = true := by kernel_rfl
@[go_sem] theorem own62 : cfg.own 17 = false := rfl
@[go_sem] theorem kn62 : cfg.keepNil 17 = false := rfl
@[go_sem] theorem shr62 : cfg.shared 17 = false := by kernel_rfl
theorem ok70 : funcOk cfg Try.f46 (Try.f46.body.getD .skip) = true := by kernel_rfl
@[go_sem] theorem own70 : cfg.own 46 = false := rfl
@[go_sem] theorem kn70 : cfg.keepNil 46 = false := rfl
@[go_sem] theorem shr70 : cfg.shared 46 = false := by kernel_rfl
theorem ok72 : funcOk cfg Try.f45 (Try.f45.body.getD .skip) = true := by kernel_rfl
@[go_sem] theorem own72 : cfg.own 45 = false := rfl
@[go_sem] theorem kn72 : cfg.keepNil 45 = false := rfl
@[go_sem] theorem shr72 : cfg.shared 45 = true := by kernel_rfl
theorem ok73 : funcOk cfg Try.f34 (Try.f34.body.getD .skip) = true := by kernel_rfl
@[go_sem] theorem own73 : cfg.own 34 = false := rfl
@[go_sem] theorem kn73 : cfg.keepNil 34 = false := rfl
@[go_sem] theorem shr73 : cfg.shared 34 = false := by kernel_rfl
theorem ok74 : funcOk cfg Try.f35 (Try.f35.body.getD .skip) = true := by kernel_rfl
@[go_sem] theorem own74 : cfg.own 35 = false := rfl
@[go_sem] theorem kn74 : cfg.keepNil 35 = false := rfl
@[go_sem] theorem shr74 : cfg.shared 35 = false := by kernel_rfl
theorem ok75 : funcOk cfg Try.f36 (Try.f36.body.getD .skip) = true := by kernel_rfl
@[go_sem] theorem own75 : cfg.own 36 = false := rfl
@[go_sem] theorem kn75 : cfg.keepNil 36 = false := rfl
@[go_sem] theorem shr75 : cfg.shared 36 = false := by kernel_rfl
theorem ok76 : funcOk cfg Try.f37 (Try.f37.body.getD .skip) = true := by kernel_rfl
@[go_sem] theorem own76 : cfg.own 37 = false := rfl
@[go_sem] theorem kn76 : cfg.keepNil 37 = false := rfl
@[go_sem] theorem shr76 : cfg.shared 37 = false := by kernel_rfl
theorem ok77 : funcOk cfg Try.f39 (Try.f39.body.getD .skip) = true := by kernel_rfl
@[go_sem] theorem own77 : cfg.own 39 = false := rfl
@[go_sem] theorem kn77 : cfg.keepNil 39 = false := rfl
@[go_sem] theorem shr77 : cfg.shared 39 = false := by kernel_rfl
theorem ok79 : funcOk cfg Try.f48 (Try.f48.body.getD .skip) = true := by kernel_rfl
@[go_sem] theorem own79 : cfg.own 48 = false := rfl
@[go_sem] theorem kn79 : cfg.keepNil 48 = false := rfl
@[go_sem] theorem shr79 : cfg.shared 48 = false := by kernel_rfl
@[go_sem] theorem gl0 {α : Type _} (l : List α) : l.toArray.size = l.length := List.size_toArray
@[go_sem] theorem gl1 {α : Type _} {a : α} {l : List α} : (a :: l).length = l.length + 1 := rfl
@[go_sem] theorem gl2 {α : Type _} : ([] : List α).length = 0 := rfl
@[go_sem] theorem gb3 (b : Bool) : (b || false) = b := Bool.or_false b
@[go_sem] theorem gb5 (b : Bool) : (b && false) = false := Bool.and_false b
@[go_sem] theorem gb6 (b : Bool) : (b && true) = b := Bool.and_true b
theorem gb0 (b : Bool) : (b && b) = b := Bool.and_self b
end Go.Proofs.Ytihnplomlphfjaa.S
