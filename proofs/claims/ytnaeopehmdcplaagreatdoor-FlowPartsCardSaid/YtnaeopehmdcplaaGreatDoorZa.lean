/- From the given statements to contracts. -/
import Derived.Test.YtnaeopehmdcplaaGreatDoorFg
import Derived.Test.YtnaeopehmdcplaaGreatDoorRows
import Derived.Lib.LaidTab
import Derived.Stop.LaidErr
import Derived.Lay
import Derived.LaidMore
import Derived.HandedShaped
import Derived.Clock

namespace Go.Proofs.YtnaeopehmdcplaaGreatDoor
open Go Go.K Go.RowKit Go.ChangeShapes Go.WideShapes
set_option maxRecDepth 100000

theorem ownKnob_none : ownKnob Tryz.prog.godebug = none := by kernel_rfl
theorem laidOut : laidOutB Tryz.prog = true := by kernel_rfl
theorem cellsInt : Tryz.prog.cellsOf 3 = 1 := by kernel_rfl
theorem cellsInts : Tryz.prog.cellsOf 48 = 1 := by kernel_rfl
theorem cellsSteps : Tryz.prog.cellsOf 22 = 1 := by kernel_rfl
theorem cellsWins : Tryz.prog.cellsOf 23 = 1 := by kernel_rfl
theorem cellsStep : Tryz.prog.cellsOf 50 = 7 := by kernel_rfl
theorem cellsWin : Tryz.prog.cellsOf 53 = 3 := by kernel_rfl
theorem cellsFlow : Tryz.prog.cellsOf 25 = 4 := by kernel_rfl
theorem cells6 : Tryz.prog.cellsOf 55 = 6 := by kernel_rfl
theorem cells3 : Tryz.prog.cellsOf 28 = 3 := by kernel_rfl
theorem cellsString : Tryz.prog.cellsOf 9 = 1 := by kernel_rfl

def laidL : List (String × DataW Unit) := [("math/bits.deBruijn32tab", Rows.laid_math_bits_deBruijn32tab), ("math/bits.deBruijn64tab", Rows.laid_math_bits_deBruijn64tab), ("internal/strconv.uint64pow10", Rows.laid_internal_strconv_uint64pow10), ("unicode/utf8.acceptRanges", Rows.laid_unicode_utf8_acceptRanges), ("strconv.ErrRange", Rows.laid_strconv_ErrRange), ("strconv.ErrSyntax", Rows.laid_strconv_ErrSyntax), ("unicode/utf8.first", Rows.laid_unicode_utf8_first)]
theorem gRng : Tryz.prog.globalNamed "strconv.ErrRange" = some 7 := by kernel_rfl
theorem gSyn : Tryz.prog.globalNamed "strconv.ErrSyntax" = some 6 := by kernel_rfl
theorem tTab : (Tryz.prog.globals[0]?).map (·.type) = some 133 := by kernel_rfl
theorem tRng : (Tryz.prog.globals[7]?).map (·.type) = some 67 := by kernel_rfl
theorem tSyn : (Tryz.prog.globals[6]?).map (·.type) = some 67 := by kernel_rfl
theorem eqTab : (Rows.laid_internal_strconv_uint64pow10 : DataW Unit) = Lib.tabData .u64 Lib.pow10Tab := by kernel_rfl
theorem errRow (u : TypeId) (h : Tryz.prog.typeName? 3 u = some "*errors.errorString") : u = 163 :=
 typeName_ptr_named (nm := "errors.errorString") (by kernel_rfl) (by kernel_rfl) (by decide) u h
theorem cell_ep {W : World} {b : Nat} {v : Value} (hc : W.cell? ⟨b, 0, none⟩ = some v) : EP (gAll W) b 0 [v] := by
 refine ⟨(cell_spot hc).2, fun j y hy => ?_⟩
 match j, hy with
 | 0, hy => simp at hy; subst hy; exact hc
 | j + 1, hy => simp at hy
theorem maxLen_of {W : World} (hsh : W.ShapedOpen Tryz.prog) : ∃ m, W.cell? ⟨1, 0, none⟩ = some (.int .i64 m) := Tryz.laysM220.s1_3 W hsh
theorem okWide_arr {P : Program} {w : World} {r : Reach} {base : Nat} {t e : TypeId} {n : Nat} {v : Value} (ht : P.underlying t = some (.array n e)) (h : Value.okWide P w r base t v) : ∃ cs, v = .agg cs ∧ cs.size = P.cellsOf t := by
 simp only [Value.okWide, ht] at h
 obtain ⟨cs, h1, h2, _⟩ := h
 exact ⟨cs, h1, h2⟩
/-- What the contracts ask of the library's variables. -/
theorem fl_of {W : World} (h : laidMet Tryz.prog laidL W) (hsh : W.ShapedOpen Tryz.prog) : FlAt (gAll W) := by
 have h2 := h.tail.tail
 rw [show (("internal/strconv.uint64pow10", Rows.laid_internal_strconv_uint64pow10) : String × DataW Unit) = ("internal/strconv.uint64pow10", Lib.tabData .u64 Lib.pow10Tab) from by rw [eqTab]] at h2
 have hT := Lib.tabIs_of_head gTab tTab Tryz.underlying133 Tryz.underlying118 (by kernel_rfl) (by kernel_rfl) h2
 have h4 := h.tail.tail.tail.tail
 have h5 := h4.tail
 obtain ⟨a, s, hv, _⟩ := laid_sentinel h4 gRng tRng Tryz.underlying67 errRow Tryz.underlying163 Tryz.underlying165 rfl rfl Tryz.underlying9 (by kernel_rfl) cellsString
 obtain ⟨a2, s2, hv2, _⟩ := laid_sentinel h5 gSyn tSyn Tryz.underlying67 errRow Tryz.underlying163 Tryz.underlying165 rfl rfl Tryz.underlying9 (by kernel_rfl) cellsString
 have hc := World.var?_cell gRng hv 0
 have hc2 := World.var?_cell gSyn hv2 0
 have hc : W.cell? ⟨7, 0, none⟩ = some (.iface 163 (.pointer (some a))) := by simpa using hc
 have hc2 : W.cell? ⟨6, 0, none⟩ = some (.iface 163 (.pointer (some a2))) := by simpa using hc2
 obtain ⟨m, hm⟩ : ∃ m, W.cell? ⟨1, 0, none⟩ = some (.int .i64 m) := maxLen_of hsh
 have hp := hT.cell gTab 0 (by decide)
 exact ⟨⟨m, cell_ep hm⟩, ⟨(cell_spot hp).2, hT⟩, ⟨_, cell_ep hc2, .inr ⟨_, _, rfl⟩⟩, ⟨_, cell_ep hc, .inr ⟨_, _, rfl⟩⟩⟩

theorem opens_field {P : Program} {t : TypeId} {fs : Array Field} (ht : P.underlying t = some (.struct fs)) {H : Type} {enc : TypeId × Value → H} {W : World} {fuel : Nat} {cs : List Value} {x : DataW H × List MemPlace} (h : DataW.trod enc P W 0 (fun _ => true) true fuel t cs = some x) :
  cs.length = P.cellsOf t ∧ ∀ (i : Nat) (u : TypeId) (off : Nat), (fs[i]?).map (fun f => (f.type, f.offset)) = some (u, off) → ∃ n y, DataW.trod enc P W 0 (fun _ => true) true n u ((cs.drop off).take (P.cellsOf u)) = some y := by
 obtain ⟨xs, n, _, _, hl, hxl, hf⟩ := DataW.trod_struct ht h
 refine ⟨hl, fun i u off hiu => ⟨n, ?_⟩⟩
 obtain ⟨f, hi, e⟩ := Option.map_eq_some_iff.1 hiu
 simp only [Prod.mk.injEq] at e
 obtain ⟨rfl, rfl⟩ := e
 have h1 := hf i f hi
 have hlt : i < xs.length := by rw [hxl]; exact (Array.getElem?_eq_some_iff.1 hi).1
 rw [List.getElem?_eq_getElem hlt] at h1
 exact ⟨_, h1⟩
theorem one_int {H : Type} {enc : TypeId × Value → H} {W : World} {n : Nat} {c : Value} {y : DataW H × List MemPlace} (h : DataW.trod enc Tryz.prog W 0 (fun _ => true) true n 3 [c] = some y) : ∃ m : Int, c = .int .i64 m := by
 obtain ⟨m, e, _⟩ := DataW.trod_int Tryz.underlying3 h
 exact ⟨m, (List.cons.inj e).1⟩
theorem opens_step : Opens Tryz.prog 50 (α := Step) fun _ => True := by
 intro H enc W fuel cs x h
 obtain ⟨hl, hf⟩ := opens_field Tryz.underlying50 h
 rw [cellsStep] at hl
 match cs, hl with
 | [c0, c1, c2, c3, c4, c5, c6], _ =>
  obtain ⟨_, _, h0⟩ := hf 0 3 0 rfl
  obtain ⟨_, _, h1⟩ := hf 1 48 1 rfl
  obtain ⟨_, _, h2⟩ := hf 2 3 2 rfl
  obtain ⟨_, _, h3⟩ := hf 3 3 3 rfl
  obtain ⟨_, _, h4⟩ := hf 4 48 4 rfl
  obtain ⟨_, _, h5⟩ := hf 5 3 5 rfl
  obtain ⟨_, _, h6⟩ := hf 6 3 6 rfl
  rw [cellsInt] at h0 h2 h3 h5 h6
  rw [cellsInts] at h1 h4
  obtain ⟨m0, rfl⟩ := one_int h0
  obtain ⟨m2, rfl⟩ := one_int h2
  obtain ⟨m3, rfl⟩ := one_int h3
  obtain ⟨m5, rfl⟩ := one_int h5
  obtain ⟨m6, rfl⟩ := one_int h6
  obtain ⟨l1, r1, _⟩ := opens_rs (α := Int) (v := c1) Tryz.underlying48 cellsInt (opens_int Tryz.underlying3) h1
  obtain ⟨l4, r4, _⟩ := opens_rs (α := Int) (v := c4) Tryz.underlying48 cellsInt (opens_int Tryz.underlying3) h4
  obtain ⟨a1, b1, rfl⟩ := r1.isSlice
  obtain ⟨a4, b4, rfl⟩ := r4.isSlice
  exact ⟨⟨m0, l1, m2, m3, l4, m5, m6⟩, ⟨a1, _, b1, a4, _, b4, rfl, r1, r4⟩, trivial⟩
theorem opens_window : Opens Tryz.prog 53 (α := Window) fun _ => True := by
 intro H enc W fuel cs x h
 obtain ⟨hl, hf⟩ := opens_field Tryz.underlying53 h
 rw [cellsWin] at hl
 match cs, hl with
 | [c0, c1, c2], _ =>
  obtain ⟨_, _, h0⟩ := hf 0 3 0 rfl
  obtain ⟨_, _, h1⟩ := hf 1 3 1 rfl
  obtain ⟨_, _, h2⟩ := hf 2 3 2 rfl
  rw [cellsInt] at h0 h1 h2
  obtain ⟨m0, rfl⟩ := one_int h0
  obtain ⟨m1, rfl⟩ := one_int h1
  obtain ⟨m2, rfl⟩ := one_int h2
  exact ⟨⟨m0, m1, m2⟩, rfl, trivial⟩
theorem open_flow {H : Type} {enc : TypeId × Value → H} {W : World} {v : Value} {d : DataW H} {p : List MemPlace} (hok : Value.okWide Tryz.prog W .any 0 25 v) (h : DataW.Trod enc Tryz.prog W 0 (fun _ => true) true 25 v d p) :
  ∃ f : Flow, RFlow (gAll W) v f := by
 obtain ⟨⟨cs⟩, rfl, hsz⟩ := okWide_struct Tryz.underlying25 hok
 obtain ⟨fuel, h⟩ := h
 have h' : DataW.trod enc Tryz.prog W 0 (fun _ => true) true fuel 25 cs = some (d, p) := h
 obtain ⟨hl, hf⟩ := opens_field Tryz.underlying25 h'
 rw [cellsFlow] at hl
 match cs, hl with
 | [c0, c1, c2, c3], _ =>
  obtain ⟨_, _, h0⟩ := hf 0 3 0 rfl
  obtain ⟨_, _, h1⟩ := hf 1 3 1 rfl
  obtain ⟨_, _, h2⟩ := hf 2 22 2 rfl
  obtain ⟨_, _, h3⟩ := hf 3 23 3 rfl
  rw [cellsInt] at h0 h1
  rw [cellsSteps] at h2
  rw [cellsWins] at h3
  obtain ⟨m0, rfl⟩ := one_int h0
  obtain ⟨m1, rfl⟩ := one_int h1
  obtain ⟨l2, r2, _⟩ := opens_rs (α := Step) (v := c2) Tryz.underlying22 cellsStep opens_step h2
  obtain ⟨l3, r3, _⟩ := opens_rs (α := Window) (v := c3) Tryz.underlying23 cellsWin opens_window h3
  obtain ⟨a2, b2, rfl⟩ := r2.isSlice
  obtain ⟨a3, b3, rfl⟩ := r3.isSlice
  exact ⟨⟨m0, m1, l2, l3⟩, a2, _, b2, a3, _, b3, rfl, r2, r3⟩
theorem opens_y6 : Opens Tryz.prog 55 (α := Y6) Y6.fit := by
 intro H enc W fuel cs x h
 obtain ⟨hl, hi⟩ := opens_ints Tryz.underlying55 Tryz.underlying3 cellsInt cells6 h
 match cs, hl with
 | [c0, c1, c2, c3, c4, c5], _ =>
  obtain ⟨m0, e0, f0⟩ := hi 0 (by decide)
  obtain ⟨m1, e1, f1⟩ := hi 1 (by decide)
  obtain ⟨m2, e2, f2⟩ := hi 2 (by decide)
  obtain ⟨m3, e3, f3⟩ := hi 3 (by decide)
  obtain ⟨m4, e4, f4⟩ := hi 4 (by decide)
  obtain ⟨m5, e5, f5⟩ := hi 5 (by decide)
  obtain rfl := Option.some.inj e0
  obtain rfl := Option.some.inj e1
  obtain rfl := Option.some.inj e2
  obtain rfl := Option.some.inj e3
  obtain rfl := Option.some.inj e4
  obtain rfl := Option.some.inj e5
  exact ⟨⟨m0, m1, m2, m3, m4, m5⟩, rfl, ⟨f0, f1, f2, f3, f4, f5⟩⟩
theorem opens_y3 : Opens Tryz.prog 28 (α := Y3) Y3.fit := by
 intro H enc W fuel cs x h
 obtain ⟨hl, hi⟩ := opens_ints Tryz.underlying28 Tryz.underlying3 cellsInt cells3 h
 match cs, hl with
 | [c0, c1, c2], _ =>
  obtain ⟨m0, e0, f0⟩ := hi 0 (by decide)
  obtain ⟨m1, e1, f1⟩ := hi 1 (by decide)
  obtain ⟨m2, e2, f2⟩ := hi 2 (by decide)
  obtain rfl := Option.some.inj e0
  obtain rfl := Option.some.inj e1
  obtain rfl := Option.some.inj e2
  exact ⟨⟨m0, m1, m2⟩, rfl, ⟨f0, f1, f2⟩⟩
theorem open_y6s {H : Type} {enc : TypeId × Value → H} {W : World} {v : Value} {d : DataW H} {p : List MemPlace} (hok : Value.okWide Tryz.prog W .any 0 26 v) (h : DataW.Trod enc Tryz.prog W 0 (fun _ => true) true 26 v d p) :
  ∃ x : List Y6, Rs (gAll W) v x ∧ ∀ y ∈ x, y.fit := by
 obtain ⟨a, n, c, rfl⟩ := okWide_slice Tryz.underlying26 hok
 obtain ⟨fuel, hf⟩ := h
 exact opens_rs (α := Y6) Tryz.underlying26 cells6 opens_y6 hf
theorem open_y3s {H : Type} {enc : TypeId × Value → H} {W : World} {v : Value} {d : DataW H} {p : List MemPlace} (hok : Value.okWide Tryz.prog W .any 0 27 v) (h : DataW.Trod enc Tryz.prog W 0 (fun _ => true) true 27 v d p) :
  ∃ x : List Y3, Rs (gAll W) v x ∧ ∀ y ∈ x, y.fit := by
 obtain ⟨a, n, c, rfl⟩ := okWide_slice Tryz.underlying27 hok
 obtain ⟨fuel, hf⟩ := h
 exact opens_rs (α := Y3) Tryz.underlying27 cells3 opens_y3 hf
theorem open_ints {H : Type} {enc : TypeId × Value → H} {W : World} {v : Value} {d : DataW H} {p : List MemPlace} (hok : Value.okWide Tryz.prog W .any 0 48 v) (h : DataW.Trod enc Tryz.prog W 0 (fun _ => true) true 48 v d p) :
  ∃ x : List Int, Rs (gAll W) v x ∧ ∀ y ∈ x, I64 y := by
 obtain ⟨a, n, c, rfl⟩ := okWide_slice Tryz.underlying48 hok
 obtain ⟨fuel, hf⟩ := h
 exact opens_rs (α := Int) Tryz.underlying48 cellsInt (opens_int Tryz.underlying3) hf
theorem open_y3 {H : Type} {enc : TypeId × Value → H} {W : World} {v : Value} {d : DataW H} {p : List MemPlace} (hok : Value.okWide Tryz.prog W .any 0 28 v) (h : DataW.Trod enc Tryz.prog W 0 (fun _ => true) true 28 v d p) :
  ∃ y : Y3, v = .agg #[.int .i64 y.z0, .int .i64 y.z1, .int .i64 y.z2] ∧ y.fit := by
 obtain ⟨⟨cs⟩, rfl, hsz⟩ := okWide_arr Tryz.underlying28 hok
 obtain ⟨fuel, h⟩ := h
 have h' : DataW.trod enc Tryz.prog W 0 (fun _ => true) true fuel 28 cs = some (d, p) := h
 obtain ⟨y, e, hf⟩ := opens_y3 H enc W fuel cs _ h'
 exact ⟨y, by rw [show cs = _ from e], hf⟩
theorem open_i64 {H : Type} {enc : TypeId × Value → H} {W : World} {v : Value} {d : DataW H} {p : List MemPlace} (hok : Value.okWide Tryz.prog W .any 0 3 v) (h : DataW.Trod enc Tryz.prog W 0 (fun _ => true) true 3 v d p) :
  ∃ n : Int, v = .int .i64 n ∧ I64 n := by
 obtain ⟨n, rfl, _, _, hw⟩ := open_int Tryz.underlying3 hok h
 exact ⟨n, rfl, wf_i64 hw⟩
theorem open_u8 {H : Type} {enc : TypeId × Value → H} {W : World} {v : Value} {d : DataW H} {p : List MemPlace} (hok : Value.okWide Tryz.prog W .any 0 5 v) (h : DataW.Trod enc Tryz.prog W 0 (fun _ => true) true 5 v d p) :
  ∃ b : UInt8, v = .int .u8 (b.toNat : Int) := by
 obtain ⟨n, rfl, _, _, hw⟩ := open_int Tryz.underlying5 hok h
 have h2 : 0 ≤ n ∧ n ≤ 255 := by
  simp only [Lit.wf, Bool.and_eq_true, decide_eq_true_eq] at hw
  exact hw
 exact ⟨UInt8.ofNat n.toNat, by rw [UInt8.toNat_ofNat']; congr 1; omega⟩
theorem open_str {W : World} {v : Value} (hok : Value.okWide Tryz.prog W .any 0 9 v) : ∃ s : List UInt8, v = .string (bs s) := by
 obtain ⟨s, rfl⟩ := okWide_string Tryz.underlying9 hok
 exact ⟨s.data.toList, congrArg Value.string (bs_of s)⟩

/-- The wrap that hands on both the listed variables and the world's shape. -/
theorem returns_and_shaped {H : Type} {enc : TypeId × Value → H} {a : Assume} {C : Checked} {os : Os} {f : FuncId} {fn : Func} {s : ChangeSpec} {conds : List PathCond} {apart fresh handsOn again : Bool} {X : World → Array Value → Prop}
  (hX : ∀ (w w' : World) (args : Array Value), w.heap = w'.heap → X w args → X w' args)
  (own : ownKnob C.prog.godebug = none) (started : os.Started) (noInit : C.prog.inits.idxOf? f = none) (hfn : C.prog.funcs[f]? = some fn)
  (witness : ∃ (w : World) (tape : Tape) (i : Input), w.os = os ∧ (w.forCall tape i).Shaped C.prog ∧ i.vars = [] ∧ Input.okWide C.prog (w.forCall tape i) .any w.heap.size f i ∧
   ((s.pre enc C.prog fn conds apart (w.forCall tape i).memory i.args ∧ X (w.forCall tape i).memory i.args) ∧ sizedMet enc C.prog fn (OpenSpec.ofChange s) apart (w.forCall tape i).memory i.args) ∧ a.holds C.prog (lone (Frame.enter C.prog f i.args .normal) [] (w.forCall tape i)))
  (contract : ∀ (W : World) (args : Array Value) (ds gs : List (DataW H)) (before : List MemPlace),
   (∀ (j : Nat) t v, fn.params[j]? = some t → args[j]? = some v → ∃ base, Value.okWide C.prog W .any base t v) →
   DataW.Whole enc C.prog fn.params.toList s.vars apart W args.toList ds gs before → X W args → W.ShapedOpen C.prog →
   Calls C.prog f args W fun e W' => ∃ v, e = .returned v ∧ s.post enc C.prog fn apart fresh handsOn again W args v W') :
  ReturnsInHanded a C os f .any (fun w args => (s.pre enc C.prog fn conds apart w args ∧ X w args) ∧ sizedMet enc C.prog fn (OpenSpec.ofChange s) apart w args) (s.post enc C.prog fn apart fresh handsOn again) := by
 refine returnsInHanded_of_calls own started noInit witness ?_
 intro w tape i _ hsh _ hok hpre _
 obtain ⟨_, _, _, fn', hfn', _, _, _, _, hval⟩ := hok
 obtain rfl : fn' = fn := Option.some.inj (hfn'.symm.trans hfn)
 obtain ⟨⟨⟨ds, gs, before, hw, _⟩, hx⟩, _⟩ := hpre
 have hw' := DataW.Whole.of_heap (w' := w.forCall tape i) (by rfl) hw
 refine (contract (w.forCall tape i) i.args ds gs before (fun j t v h1 h2 => ⟨_, hval j t v h1 h2⟩) hw' (hX _ _ _ (by rfl) hx) hsh).mono fun e W' ⟨v, he, hp⟩ => ?_
 subst he
 exact ChangeSpec.post_blind hp
theorem finish_law {f : FuncId} {args : Array Value} {W : World} {s : ChangeSpec} {fn : Func} {H : Type} {enc : TypeId × Value → H} {ds : List (DataW H)} {before : List MemPlace}
  (hr : (fn.params.toList.all fun t => Tryz.prog.readableRec t && decide (t < Tryz.prog.types.size)) = true) (hv : s.vars = []) (hs : s.fn H ds = { results := [.lit (.bool true)], args := ds }) (hrt : fn.resultTypes = #[4])
  (hW : DataW.Whole enc Tryz.prog fn.params.toList s.vars false W args.toList ds [] before)
  (h : CallsIn Wd 0 Tryz.prog f args (gAll W).w (Ret (gAll W) fun _ r => r = .bool true)) :
  Calls Tryz.prog f args W fun e W' => ∃ v, e = .returned v ∧ s.post enc Tryz.prog fn false true false false W args v W' := by
 refine (callsIn_wide.1 h).mono ?_
 rintro _ _ ⟨g', v, rfl, hf, rfl, rfl⟩
 exact ⟨_, rfl, law_post laidOut hr hv hs hrt Tryz.underlying4 hW hf.below⟩
theorem wit_met (os : Os) (args : Array Value) : laidMetH Tryz.prog laidL ((World.laidAll Tryz.prog os laidL).forCall (fun _ _ => 0) ⟨#[], args, []⟩).memory := by
 rw [MakeChecks.laidMetH_plain _ _ _ (by kernel_rfl)]
 exact laidMet_laidAll _ (by kernel_rfl) (by kernel_rfl)
end Go.Proofs.YtnaeopehmdcplaaGreatDoor
