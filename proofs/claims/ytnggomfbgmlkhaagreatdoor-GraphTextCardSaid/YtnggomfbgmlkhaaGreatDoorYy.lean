/- From the given statements to contracts. -/
import Derived.Test.YtnggomfbgmlkhaaGreatDoorYq
import Derived.Test.YtnggomfbgmlkhaaGreatDoorYw
import Derived.Test.YtnggomfbgmlkhaaGreatDoorRows
import Derived.Lib.LaidTab
import Derived.Stop.LaidErr
import Derived.Lay
import Derived.LaidMore
import Derived.HandedShaped
import Derived.Clock

namespace Go.Proofs.YtnggomfbgmlkhaaGreatDoor
open Go Go.K Go.RowKit Go.ChangeShapes Go.WideShapes
set_option maxRecDepth 100000

theorem ownKnob_none : ownKnob Tryz.prog.godebug = none := by kernel_rfl
theorem laidOut : laidOutB Tryz.prog = true := by kernel_rfl
theorem cellsInt : Tryz.prog.cellsOf 3 = 1 := by kernel_rfl
theorem cells6 : Tryz.prog.cellsOf 52 = 6 := by kernel_rfl
theorem cellsString : Tryz.prog.cellsOf 9 = 1 := by kernel_rfl

def laidL : List (String × DataW Unit) := [("math/bits.deBruijn32tab", Rows.laid_math_bits_deBruijn32tab), ("math/bits.deBruijn64tab", Rows.laid_math_bits_deBruijn64tab), ("internal/strconv.uint64pow10", Rows.laid_internal_strconv_uint64pow10), ("unicode/utf8.acceptRanges", Rows.laid_unicode_utf8_acceptRanges), ("strconv.ErrRange", Rows.laid_strconv_ErrRange), ("strconv.ErrSyntax", Rows.laid_strconv_ErrSyntax), ("unicode/utf8.first", Rows.laid_unicode_utf8_first)]
theorem gRng : Tryz.prog.globalNamed "strconv.ErrRange" = some 7 := by kernel_rfl
theorem gSyn : Tryz.prog.globalNamed "strconv.ErrSyntax" = some 6 := by kernel_rfl
theorem tTab : (Tryz.prog.globals[0]?).map (·.type) = some 139 := by kernel_rfl
theorem tRng : (Tryz.prog.globals[7]?).map (·.type) = some 61 := by kernel_rfl
theorem tSyn : (Tryz.prog.globals[6]?).map (·.type) = some 61 := by kernel_rfl
theorem eqTab : (Rows.laid_internal_strconv_uint64pow10 : DataW Unit) = Lib.tabData .u64 Lib.pow10Tab := by kernel_rfl
theorem errRow (u : TypeId) (h : Tryz.prog.typeName? 3 u = some "*errors.errorString") : u = 169 :=
 typeName_ptr_named (nm := "errors.errorString") (by kernel_rfl) (by kernel_rfl) (by decide) u h
theorem cell_ep {W : World} {b : Nat} {v : Value} (hc : W.cell? ⟨b, 0, none⟩ = some v) : EP (gAll W) b 0 [v] := by
 refine ⟨(cell_spot hc).2, fun j y hy => ?_⟩
 match j, hy with
 | 0, hy => simp at hy; subst hy; exact hc
 | j + 1, hy => simp at hy
theorem maxLen_of {W : World} (hsh : W.ShapedOpen Tryz.prog) : ∃ m, W.cell? ⟨1, 0, none⟩ = some (.int .i64 m) := Tryz.laysM220.s1_3 W hsh
/-- What the contracts ask of the library's variables. -/
theorem fl_of {W : World} (h : laidMet Tryz.prog laidL W) (hsh : W.ShapedOpen Tryz.prog) : FlAt (gAll W) := by
 have h2 := h.tail.tail
 rw [show (("internal/strconv.uint64pow10", Rows.laid_internal_strconv_uint64pow10) : String × DataW Unit) = ("internal/strconv.uint64pow10", Lib.tabData .u64 Lib.pow10Tab) from by rw [eqTab]] at h2
 have hT := Lib.tabIs_of_head gTab tTab Tryz.underlying139 Tryz.underlying125 (by kernel_rfl) (by kernel_rfl) h2
 have h4 := h.tail.tail.tail.tail
 have h5 := h4.tail
 obtain ⟨a, s, hv, _⟩ := laid_sentinel h4 gRng tRng Tryz.underlying61 errRow Tryz.underlying169 Tryz.underlying171 rfl rfl Tryz.underlying9 (by kernel_rfl) cellsString
 obtain ⟨a2, s2, hv2, _⟩ := laid_sentinel h5 gSyn tSyn Tryz.underlying61 errRow Tryz.underlying169 Tryz.underlying171 rfl rfl Tryz.underlying9 (by kernel_rfl) cellsString
 have hc := World.var?_cell gRng hv 0
 have hc2 := World.var?_cell gSyn hv2 0
 have hc : W.cell? ⟨7, 0, none⟩ = some (.iface 169 (.pointer (some a))) := by simpa using hc
 have hc2 : W.cell? ⟨6, 0, none⟩ = some (.iface 169 (.pointer (some a2))) := by simpa using hc2
 obtain ⟨m, hm⟩ : ∃ m, W.cell? ⟨1, 0, none⟩ = some (.int .i64 m) := maxLen_of hsh
 have hp := hT.cell gTab 0 (by decide)
 exact ⟨⟨m, cell_ep hm⟩, ⟨(cell_spot hp).2, hT⟩, ⟨_, cell_ep hc2, .inr ⟨_, _, rfl⟩⟩, ⟨_, cell_ep hc, .inr ⟨_, _, rfl⟩⟩⟩

theorem opens_y6 : Opens Tryz.prog 52 (α := Y6) Y6.fit := by
 intro H enc W fuel cs x h
 obtain ⟨hl, hi⟩ := opens_ints Tryz.underlying52 Tryz.underlying3 cellsInt cells6 h
 match cs, hl with
 | [c0, c1, c2, c3, c4, c5], _ =>
  obtain ⟨m0, e0, f0⟩ := hi 0 (by decide)
  obtain ⟨m1, e1, f1⟩ := hi 1 (by decide)
  obtain ⟨m2, e2, f2⟩ := hi 2 (by decide)
  obtain ⟨m3, e3, f3⟩ := hi 3 (by decide)
  obtain ⟨m4, e4, f4⟩ := hi 4 (by decide)
  obtain ⟨m5, e5, f5⟩ := hi 5 (by decide)
  obtain rfl := Option.some.inj e0
  obtain rfl := Option.some.inj e1
  obtain rfl := Option.some.inj e2
  obtain rfl := Option.some.inj e3
  obtain rfl := Option.some.inj e4
  obtain rfl := Option.some.inj e5
  exact ⟨⟨m0, m1, m2, m3, m4, m5⟩, rfl, ⟨f0, f1, f2, f3, f4, f5⟩⟩
theorem open_y6s {H : Type} {enc : TypeId × Value → H} {W : World} {v : Value} {d : DataW H} {p : List MemPlace} (hok : Value.okWide Tryz.prog W .any 0 22 v) (h : DataW.Trod enc Tryz.prog W 0 (fun _ => true) true 22 v d p) :
  ∃ x : List Y6, Rs (gAll W) v x ∧ ∀ y ∈ x, y.fit := by
 obtain ⟨a, n, c, rfl⟩ := okWide_slice Tryz.underlying22 hok
 obtain ⟨fuel, hf⟩ := h
 exact opens_rs (α := Y6) Tryz.underlying22 cells6 opens_y6 hf
theorem open_i64 {H : Type} {enc : TypeId × Value → H} {W : World} {v : Value} {d : DataW H} {p : List MemPlace} (hok : Value.okWide Tryz.prog W .any 0 3 v) (h : DataW.Trod enc Tryz.prog W 0 (fun _ => true) true 3 v d p) :
  ∃ n : Int, v = .int .i64 n ∧ I64 n := by
 obtain ⟨n, rfl, _, _, hw⟩ := open_int Tryz.underlying3 hok h
 exact ⟨n, rfl, wf_i64 hw⟩
/-- The wrap that hands on both the listed variables and the world's shape. -/
theorem returns_and_shaped {H : Type} {enc : TypeId × Value → H} {a : Assume} {C : Checked} {os : Os} {f : FuncId} {fn : Func} {s : ChangeSpec} {conds : List PathCond} {apart fresh handsOn again : Bool} {X : World → Array Value → Prop}
  (hX : ∀ (w w' : World) (args : Array Value), w.heap = w'.heap → X w args → X w' args)
  (own : ownKnob C.prog.godebug = none) (started : os.Started) (noInit : C.prog.inits.idxOf? f = none) (hfn : C.prog.funcs[f]? = some fn)
  (witness : ∃ (w : World) (tape : Tape) (i : Input), w.os = os ∧ (w.forCall tape i).Shaped C.prog ∧ i.vars = [] ∧ Input.okWide C.prog (w.forCall tape i) .any w.heap.size f i ∧
   ((s.pre enc C.prog fn conds apart (w.forCall tape i).memory i.args ∧ X (w.forCall tape i).memory i.args) ∧ sizedMet enc C.prog fn (OpenSpec.ofChange s) apart (w.forCall tape i).memory i.args) ∧ a.holds C.prog (lone (Frame.enter C.prog f i.args .normal) [] (w.forCall tape i)))
  (contract : ∀ (W : World) (args : Array Value) (ds gs : List (DataW H)) (before : List MemPlace),
   (∀ (j : Nat) t v, fn.params[j]? = some t → args[j]? = some v → ∃ base, Value.okWide C.prog W .any base t v) →
   DataW.Whole enc C.prog fn.params.toList s.vars apart W args.toList ds gs before → X W args → W.ShapedOpen C.prog →
   Calls C.prog f args W fun e W' => ∃ v, e = .returned v ∧ s.post enc C.prog fn apart fresh handsOn again W args v W') :
  ReturnsInHanded a C os f .any (fun w args => (s.pre enc C.prog fn conds apart w args ∧ X w args) ∧ sizedMet enc C.prog fn (OpenSpec.ofChange s) apart w args) (s.post enc C.prog fn apart fresh handsOn again) := by
 refine returnsInHanded_of_calls own started noInit witness ?_
 intro w tape i _ hsh _ hok hpre _
 obtain ⟨_, _, _, fn', hfn', _, _, _, _, hval⟩ := hok
 obtain rfl : fn' = fn := Option.some.inj (hfn'.symm.trans hfn)
 obtain ⟨⟨⟨ds, gs, before, hw, _⟩, hx⟩, _⟩ := hpre
 have hw' := DataW.Whole.of_heap (w' := w.forCall tape i) (by rfl) hw
 refine (contract (w.forCall tape i) i.args ds gs before (fun j t v h1 h2 => ⟨_, hval j t v h1 h2⟩) hw' (hX _ _ _ (by rfl) hx) hsh).mono fun e W' ⟨v, he, hp⟩ => ?_
 subst he
 exact ChangeSpec.post_blind hp
theorem finish_law {f : FuncId} {args : Array Value} {W : World} {s : ChangeSpec} {fn : Func} {H : Type} {enc : TypeId × Value → H} {ds : List (DataW H)} {before : List MemPlace}
  (hr : (fn.params.toList.all fun t => Tryz.prog.readableRec t && decide (t < Tryz.prog.types.size)) = true) (hv : s.vars = []) (hs : s.fn H ds = { results := [.lit (.bool true)], args := ds }) (hrt : fn.resultTypes = #[4])
  (hW : DataW.Whole enc Tryz.prog fn.params.toList s.vars false W args.toList ds [] before)
  (h : CallsIn Wd 0 Tryz.prog f args (gAll W).w (Ret (gAll W) fun _ r => r = .bool true)) :
  Calls Tryz.prog f args W fun e W' => ∃ v, e = .returned v ∧ s.post enc Tryz.prog fn false true false false W args v W' := by
 refine (callsIn_wide.1 h).mono ?_
 rintro _ _ ⟨g', v, rfl, hf, rfl, rfl⟩
 exact ⟨_, rfl, law_post laidOut hr hv hs hrt Tryz.underlying4 hW hf.below⟩
theorem wit_met (os : Os) (args : Array Value) : laidMetH Tryz.prog laidL ((World.laidAll Tryz.prog os laidL).forCall (fun _ _ => 0) ⟨#[], args, []⟩).memory := by
 rw [MakeChecks.laidMetH_plain _ _ _ (by kernel_rfl)]
 exact laidMet_laidAll _ (by kernel_rfl) (by kernel_rfl)
end Go.Proofs.YtnggomfbgmlkhaaGreatDoor
