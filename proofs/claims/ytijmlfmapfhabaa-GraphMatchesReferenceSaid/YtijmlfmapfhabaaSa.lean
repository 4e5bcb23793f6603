/- What all walks lean on, and how the structures lie in memory. -/
import Derived.Test.YtijmlfmapfhabaaTa
import Derived.Test.YtijmlfmapfhabaaKb
import Derived.Test.YtijmlfmapfhabaaMa

/- What all walks of this seat lean on. -/
namespace Go.Proofs.Ytijmlfmapfhabaa
open Go Go.K
theorem allF (f : FuncId) : Wd.fn f := trivial
theorem cl3 : Callable Try.prog 3 := by unfold Callable; rw [Try.func3]; kernel_rfl
theorem cl4 : Callable Try.prog 4 := by unfold Callable; rw [Try.func4]; kernel_rfl
theorem cl5 : Callable Try.prog 5 := by unfold Callable; rw [Try.func5]; kernel_rfl
theorem cl6 : Callable Try.prog 6 := by unfold Callable; rw [Try.func6]; kernel_rfl
theorem cl7 : Callable Try.prog 7 := by unfold Callable; rw [Try.func7]; kernel_rfl
theorem cl8 : Callable Try.prog 8 := by unfold Callable; rw [Try.func8]; kernel_rfl
theorem cl9 : Callable Try.prog 9 := by unfold Callable; rw [Try.func9]; kernel_rfl
theorem cl10 : Callable Try.prog 10 := by unfold Callable; rw [Try.func10]; kernel_rfl
theorem cl11 : Callable Try.prog 11 := by unfold Callable; rw [Try.func11]; kernel_rfl
theorem cl12 : Callable Try.prog 12 := by unfold Callable; rw [Try.func12]; kernel_rfl
theorem cl13 : Callable Try.prog 13 := by unfold Callable; rw [Try.func13]; kernel_rfl
theorem cl14 : Callable Try.prog 14 := by unfold Callable; rw [Try.func14]; kernel_rfl
theorem cl15 : Callable Try.prog 15 := by unfold Callable; rw [Try.func15]; kernel_rfl
theorem cl16 : Callable Try.prog 16 := by unfold Callable; rw [Try.func16]; kernel_rfl
theorem cl17 : Callable Try.prog 17 := by unfold Callable; rw [Try.func17]; kernel_rfl
theorem cl18 : Callable Try.prog 18 := by unfold Callable; rw [Try.func18]; kernel_rfl
theorem cl19 : Callable Try.prog 19 := by unfold Callable; rw [Try.func19]; kernel_rfl
theorem cl20 : Callable Try.prog 20 := by unfold Callable; rw [Try.func20]; kernel_rfl
theorem cl21 : Callable Try.prog 21 := by unfold Callable; rw [Try.func21]; kernel_rfl
theorem cl22 : Callable Try.prog 22 := by unfold Callable; rw [Try.func22]; kernel_rfl
theorem cl23 : Callable Try.prog 23 := by unfold Callable; rw [Try.func23]; kernel_rfl
theorem cl24 : Callable Try.prog 24 := by unfold Callable; rw [Try.func24]; kernel_rfl
theorem cl25 : Callable Try.prog 25 := by unfold Callable; rw [Try.func25]; kernel_rfl
theorem cl26 : Callable Try.prog 26 := by unfold Callable; rw [Try.func26]; kernel_rfl
theorem cl27 : Callable Try.prog 27 := by unfold Callable; rw [Try.func27]; kernel_rfl
theorem cl28 : Callable Try.prog 28 := by unfold Callable; rw [Try.func28]; kernel_rfl
theorem cl29 : Callable Try.prog 29 := by unfold Callable; rw [Try.func29]; kernel_rfl
theorem cl30 : Callable Try.prog 30 := by unfold Callable; rw [Try.func30]; kernel_rfl
theorem cl31 : Callable Try.prog 31 := by unfold Callable; rw [Try.func31]; kernel_rfl
theorem cl32 : Callable Try.prog 32 := by unfold Callable; rw [Try.func32]; kernel_rfl
theorem cl33 : Callable Try.prog 33 := by unfold Callable; rw [Try.func33]; kernel_rfl
theorem cl34 : Callable Try.prog 34 := by unfold Callable; rw [Try.func34]; kernel_rfl
theorem cl35 : Callable Try.prog 35 := by unfold Callable; rw [Try.func35]; kernel_rfl
theorem cl36 : Callable Try.prog 36 := by unfold Callable; rw [Try.func36]; kernel_rfl
theorem cl37 : Callable Try.prog 37 := by unfold Callable; rw [Try.func37]; kernel_rfl
theorem cl38 : Callable Try.prog 38 := by unfold Callable; rw [Try.func38]; kernel_rfl
theorem cl39 : Callable Try.prog 39 := by unfold Callable; rw [Try.func39]; kernel_rfl
theorem cl40 : Callable Try.prog 40 := by unfold Callable; rw [Try.func40]; kernel_rfl
theorem cl41 : Callable Try.prog 41 := by unfold Callable; rw [Try.func41]; kernel_rfl
theorem cl42 : Callable Try.prog 42 := by unfold Callable; rw [Try.func42]; kernel_rfl
theorem cl43 : Callable Try.prog 43 := by unfold Callable; rw [Try.func43]; kernel_rfl
theorem cl44 : Callable Try.prog 44 := by unfold Callable; rw [Try.func44]; kernel_rfl
theorem cl45 : Callable Try.prog 45 := by unfold Callable; rw [Try.func45]; kernel_rfl
theorem cl46 : Callable Try.prog 46 := by unfold Callable; rw [Try.func46]; kernel_rfl
theorem cl47 : Callable Try.prog 47 := by unfold Callable; rw [Try.func47]; kernel_rfl
theorem cl48 : Callable Try.prog 48 := by unfold Callable; rw [Try.func48]; kernel_rfl
theorem cl49 : Callable Try.prog 49 := by unfold Callable; rw [Try.func49]; kernel_rfl
theorem cl50 : Callable Try.prog 50 := by unfold Callable; rw [Try.func50]; kernel_rfl
theorem cl51 : Callable Try.prog 51 := by unfold Callable; rw [Try.func51]; kernel_rfl
theorem cl52 : Callable Try.prog 52 := by unfold Callable; rw [Try.func52]; kernel_rfl
theorem cl53 : Callable Try.prog 53 := by unfold Callable; rw [Try.func53]; kernel_rfl
theorem cl54 : Callable Try.prog 54 := by unfold Callable; rw [Try.func54]; kernel_rfl
theorem cl55 : Callable Try.prog 55 := by unfold Callable; rw [Try.func55]; kernel_rfl
theorem cl56 : Callable Try.prog 56 := by unfold Callable; rw [Try.func56]; kernel_rfl
theorem cl57 : Callable Try.prog 57 := by unfold Callable; rw [Try.func57]; kernel_rfl
theorem cl58 : Callable Try.prog 58 := by unfold Callable; rw [Try.func58]; kernel_rfl
theorem cl59 : Callable Try.prog 59 := by unfold Callable; rw [Try.func59]; kernel_rfl
theorem cl60 : Callable Try.prog 60 := by unfold Callable; rw [Try.func60]; kernel_rfl
theorem cl61 : Callable Try.prog 61 := by unfold Callable; rw [Try.func61]; kernel_rfl
theorem cl62 : Callable Try.prog 62 := by unfold Callable; rw [Try.func62]; kernel_rfl
theorem cl63 : Callable Try.prog 63 := by unfold Callable; rw [Try.func63]; kernel_rfl
theorem cl64 : Callable Try.prog 64 := by unfold Callable; rw [Try.func64]; kernel_rfl
theorem cl65 : Callable Try.prog 65 := by unfold Callable; rw [Try.func65]; kernel_rfl
theorem cl66 : Callable Try.prog 66 := by unfold Callable; rw [Try.func66]; kernel_rfl
theorem cl67 : Callable Try.prog 67 := by unfold Callable; rw [Try.func67]; kernel_rfl
theorem cl68 : Callable Try.prog 68 := by unfold Callable; rw [Try.func68]; kernel_rfl
theorem cl69 : Callable Try.prog 69 := by unfold Callable; rw [Try.func69]; kernel_rfl
theorem cl70 : Callable Try.prog 70 := by unfold Callable; rw [Try.func70]; kernel_rfl
theorem cl71 : Callable Try.prog 71 := by unfold Callable; rw [Try.func71]; kernel_rfl
theorem cl72 : Callable Try.prog 72 := by unfold Callable; rw [Try.func72]; kernel_rfl
theorem cl73 : Callable Try.prog 73 := by unfold Callable; rw [Try.func73]; kernel_rfl
theorem cl74 : Callable Try.prog 74 := by unfold Callable; rw [Try.func74]; kernel_rfl
theorem cl75 : Callable Try.prog 75 := by unfold Callable; rw [Try.func75]; kernel_rfl
theorem cl76 : Callable Try.prog 76 := by unfold Callable; rw [Try.func76]; kernel_rfl
theorem cl77 : Callable Try.prog 77 := by unfold Callable; rw [Try.func77]; kernel_rfl
theorem cl78 : Callable Try.prog 78 := by unfold Callable; rw [Try.func78]; kernel_rfl
end Go.Proofs.Ytijmlfmapfhabaa

/- How the structures lie in memory. -/
namespace Go.Proofs.Ytijmlfmapfhabaa
open Go Go.K

def RStep (g : G) (cs : List Value) (s : Step) : Prop :=
  ∃ a1 n1 c1 a2 n2 c2, cs = [.int .i64 s.recipe, .slice a1 n1 c1, .int .i64 s.min, .int .i64 s.max, .slice a2 n2 c2, .int .i64 s.back, .int .i64 s.limit] ∧ Rs g (.slice a1 n1 c1) s.tools ∧ Rs g (.slice a2 n2 c2) s.next
instance : El Step where
  k := 7
  pos := by omega
  rc := RStep
  len h := by obtain ⟨_, _, _, _, _, _, rfl, _⟩ := h; rfl
  mono hle h := by obtain ⟨a1, n1, c1, a2, n2, c2, e, h1, h2⟩ := h; exact ⟨a1, n1, c1, a2, n2, c2, e, h1.mono hle, h2.mono hle⟩
  one h := by obtain ⟨_, _, _, _, _, _, rfl, _⟩ := h; simp [Value.oneCell']

instance : El Window where
  k := 3
  pos := by omega
  rc _ cs w := cs = [.int .i64 w.src, .int .i64 w.dst, .int .i64 w.limit]
  len h := by rw [h]; rfl
  mono _ h := h
  one h := by rw [h]; simp [Value.oneCell']

/-- A flow, as a value. -/
def RFlow (g : G) (v : Value) (f : Flow) : Prop :=
  ∃ a1 n1 c1 a2 n2 c2, v = .agg #[.int .i64 f.moveMin, .int .i64 f.moveMax, .slice a1 n1 c1, .slice a2 n2 c2] ∧ Rs g (.slice a1 n1 c1) f.steps ∧ Rs g (.slice a2 n2 c2) f.windows
theorem RFlow.mono {g g' : G} {v : Value} {f : Flow} (hle : g.le g') (h : RFlow g v f) : RFlow g' v f := by
  obtain ⟨a1, n1, c1, a2, n2, c2, e, h1, h2⟩ := h
  exact ⟨a1, n1, c1, a2, n2, c2, e, h1.mono hle, h2.mono hle⟩
def RStepV (g : G) (v : Value) (s : Step) : Prop := ∃ cs, v = .agg cs.toArray ∧ RStep g cs s
theorem RStepV.mono {g g' : G} {v : Value} {s : Step} (hle : g.le g') (h : RStepV g v s) : RStepV g' v s := by
  obtain ⟨cs, e, h⟩ := h
  exact ⟨cs, e, El.mono (α := Step) hle h⟩
end Go.Proofs.Ytijmlfmapfhabaa
