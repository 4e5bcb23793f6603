/- Which functions can be called. -/
import Derived.Test.YtnaeopehmdcplaaGreatDoorYj
import Derived.Test.YtnaeopehmdcplaaGreatDoorYf

namespace Go.Proofs.YtnaeopehmdcplaaGreatDoor
open Go Go.K
theorem allF (f : FuncId) : Wd.fn f := trivial
theorem cl6 : Callable Tryz.prog 6 := by unfold Callable; rw [Tryz.func6]; kernel_rfl
theorem cl7 : Callable Tryz.prog 7 := by unfold Callable; rw [Tryz.func7]; kernel_rfl
theorem cl8 : Callable Tryz.prog 8 := by unfold Callable; rw [Tryz.func8]; kernel_rfl
theorem cl11 : Callable Tryz.prog 11 := by unfold Callable; rw [Tryz.func11]; kernel_rfl
theorem cl12 : Callable Tryz.prog 12 := by unfold Callable; rw [Tryz.func12]; kernel_rfl
theorem cl13 : Callable Tryz.prog 13 := by unfold Callable; rw [Tryz.func13]; kernel_rfl
theorem cl14 : Callable Tryz.prog 14 := by unfold Callable; rw [Tryz.func14]; kernel_rfl
theorem cl15 : Callable Tryz.prog 15 := by unfold Callable; rw [Tryz.func15]; kernel_rfl
theorem cl16 : Callable Tryz.prog 16 := by unfold Callable; rw [Tryz.func16]; kernel_rfl
theorem cl17 : Callable Tryz.prog 17 := by unfold Callable; rw [Tryz.func17]; kernel_rfl
theorem cl18 : Callable Tryz.prog 18 := by unfold Callable; rw [Tryz.func18]; kernel_rfl
theorem cl19 : Callable Tryz.prog 19 := by unfold Callable; rw [Tryz.func19]; kernel_rfl
theorem cl20 : Callable Tryz.prog 20 := by unfold Callable; rw [Tryz.func20]; kernel_rfl
theorem cl21 : Callable Tryz.prog 21 := by unfold Callable; rw [Tryz.func21]; kernel_rfl
theorem cl22 : Callable Tryz.prog 22 := by unfold Callable; rw [Tryz.func22]; kernel_rfl
theorem cl23 : Callable Tryz.prog 23 := by unfold Callable; rw [Tryz.func23]; kernel_rfl
theorem cl24 : Callable Tryz.prog 24 := by unfold Callable; rw [Tryz.func24]; kernel_rfl
theorem cl25 : Callable Tryz.prog 25 := by unfold Callable; rw [Tryz.func25]; kernel_rfl
theorem cl26 : Callable Tryz.prog 26 := by unfold Callable; rw [Tryz.func26]; kernel_rfl
theorem cl27 : Callable Tryz.prog 27 := by unfold Callable; rw [Tryz.func27]; kernel_rfl
theorem cl28 : Callable Tryz.prog 28 := by unfold Callable; rw [Tryz.func28]; kernel_rfl
theorem cl29 : Callable Tryz.prog 29 := by unfold Callable; rw [Tryz.func29]; kernel_rfl
theorem cl30 : Callable Tryz.prog 30 := by unfold Callable; rw [Tryz.func30]; kernel_rfl
theorem cl31 : Callable Tryz.prog 31 := by unfold Callable; rw [Tryz.func31]; kernel_rfl
theorem cl32 : Callable Tryz.prog 32 := by unfold Callable; rw [Tryz.func32]; kernel_rfl
theorem cl33 : Callable Tryz.prog 33 := by unfold Callable; rw [Tryz.func33]; kernel_rfl
theorem cl34 : Callable Tryz.prog 34 := by unfold Callable; rw [Tryz.func34]; kernel_rfl
theorem cl35 : Callable Tryz.prog 35 := by unfold Callable; rw [Tryz.func35]; kernel_rfl
theorem cl36 : Callable Tryz.prog 36 := by unfold Callable; rw [Tryz.func36]; kernel_rfl
theorem cl37 : Callable Tryz.prog 37 := by unfold Callable; rw [Tryz.func37]; kernel_rfl
theorem cl38 : Callable Tryz.prog 38 := by unfold Callable; rw [Tryz.func38]; kernel_rfl
theorem cl39 : Callable Tryz.prog 39 := by unfold Callable; rw [Tryz.func39]; kernel_rfl
theorem cl40 : Callable Tryz.prog 40 := by unfold Callable; rw [Tryz.func40]; kernel_rfl
theorem cl41 : Callable Tryz.prog 41 := by unfold Callable; rw [Tryz.func41]; kernel_rfl
theorem cl42 : Callable Tryz.prog 42 := by unfold Callable; rw [Tryz.func42]; kernel_rfl
theorem cl43 : Callable Tryz.prog 43 := by unfold Callable; rw [Tryz.func43]; kernel_rfl
theorem cl44 : Callable Tryz.prog 44 := by unfold Callable; rw [Tryz.func44]; kernel_rfl
theorem cl45 : Callable Tryz.prog 45 := by unfold Callable; rw [Tryz.func45]; kernel_rfl
theorem cl46 : Callable Tryz.prog 46 := by unfold Callable; rw [Tryz.func46]; kernel_rfl
theorem cl47 : Callable Tryz.prog 47 := by unfold Callable; rw [Tryz.func47]; kernel_rfl
theorem cl48 : Callable Tryz.prog 48 := by unfold Callable; rw [Tryz.func48]; kernel_rfl
theorem cl49 : Callable Tryz.prog 49 := by unfold Callable; rw [Tryz.func49]; kernel_rfl
theorem cl50 : Callable Tryz.prog 50 := by unfold Callable; rw [Tryz.func50]; kernel_rfl
theorem cl51 : Callable Tryz.prog 51 := by unfold Callable; rw [Tryz.func51]; kernel_rfl
theorem cl52 : Callable Tryz.prog 52 := by unfold Callable; rw [Tryz.func52]; kernel_rfl
theorem cl53 : Callable Tryz.prog 53 := by unfold Callable; rw [Tryz.func53]; kernel_rfl
theorem cl54 : Callable Tryz.prog 54 := by unfold Callable; rw [Tryz.func54]; kernel_rfl
theorem cl55 : Callable Tryz.prog 55 := by unfold Callable; rw [Tryz.func55]; kernel_rfl
theorem cl56 : Callable Tryz.prog 56 := by unfold Callable; rw [Tryz.func56]; kernel_rfl
theorem cl57 : Callable Tryz.prog 57 := by unfold Callable; rw [Tryz.func57]; kernel_rfl
theorem cl59 : Callable Tryz.prog 59 := by unfold Callable; rw [Tryz.func59]; kernel_rfl
theorem cl60 : Callable Tryz.prog 60 := by unfold Callable; rw [Tryz.func60]; kernel_rfl
theorem cl61 : Callable Tryz.prog 61 := by unfold Callable; rw [Tryz.func61]; kernel_rfl
theorem cl64 : Callable Tryz.prog 64 := by unfold Callable; rw [Tryz.func64]; kernel_rfl
theorem cl65 : Callable Tryz.prog 65 := by unfold Callable; rw [Tryz.func65]; kernel_rfl
theorem cl66 : Callable Tryz.prog 66 := by unfold Callable; rw [Tryz.func66]; kernel_rfl
theorem cl67 : Callable Tryz.prog 67 := by unfold Callable; rw [Tryz.func67]; kernel_rfl
theorem cl68 : Callable Tryz.prog 68 := by unfold Callable; rw [Tryz.func68]; kernel_rfl
theorem cl69 : Callable Tryz.prog 69 := by unfold Callable; rw [Tryz.func69]; kernel_rfl
theorem cl70 : Callable Tryz.prog 70 := by unfold Callable; rw [Tryz.func70]; kernel_rfl
theorem cl71 : Callable Tryz.prog 71 := by unfold Callable; rw [Tryz.func71]; kernel_rfl
theorem cl74 : Callable Tryz.prog 74 := by unfold Callable; rw [Tryz.func74]; kernel_rfl
theorem cl78 : Callable Tryz.prog 78 := by unfold Callable; rw [Tryz.func78]; kernel_rfl
theorem cl79 : Callable Tryz.prog 79 := by unfold Callable; rw [Tryz.func79]; kernel_rfl
theorem cl80 : Callable Tryz.prog 80 := by unfold Callable; rw [Tryz.func80]; kernel_rfl
theorem cl81 : Callable Tryz.prog 81 := by unfold Callable; rw [Tryz.func81]; kernel_rfl
theorem cl82 : Callable Tryz.prog 82 := by unfold Callable; rw [Tryz.func82]; kernel_rfl
theorem cl92 : Callable Tryz.prog 92 := by unfold Callable; rw [Tryz.func92]; kernel_rfl
theorem cl93 : Callable Tryz.prog 93 := by unfold Callable; rw [Tryz.func93]; kernel_rfl
end Go.Proofs.YtnaeopehmdcplaaGreatDoor
