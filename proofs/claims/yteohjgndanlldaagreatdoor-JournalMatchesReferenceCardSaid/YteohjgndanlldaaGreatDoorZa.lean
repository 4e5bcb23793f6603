/- From the given statements to contracts. -/
import Derived.Test.YteohjgndanlldaaGreatDoorWa
import Derived.Test.YteohjgndanlldaaGreatDoorWe
import Derived.Test.YteohjgndanlldaaGreatDoorKh
import Derived.Test.YteohjgndanlldaaGreatDoorRows
import Derived.Lib.LaidTab
import Derived.Stop.LaidErr
import Derived.Lay
import Derived.LaidMore
import Derived.Test.YteohjgndanlldaaGreatDoorWj

/- From the given statements to my contracts: what the arguments and the listed variables hold. -/
namespace Go.Proofs.YteohjgndanlldaaGreatDoor
open Go Go.K Go.RowKit Go.ChangeShapes Go.WideShapes
set_option maxRecDepth 100000

theorem ownKnob_none : ownKnob Tryz.prog.godebug = none := by kernel_rfl
theorem laidOut : laidOutB Tryz.prog = true := by kernel_rfl
theorem cellsInt : Tryz.prog.cellsOf 3 = 1 := by kernel_rfl
theorem cellsString : Tryz.prog.cellsOf 9 = 1 := by kernel_rfl
theorem cellsStrings : Tryz.prog.cellsOf 22 = 1 := by kernel_rfl

def laidL : List (String × DataW Unit) := [("unicode/utf8.acceptRanges", Rows.laid_unicode_utf8_acceptRanges), ("cleanroom/digest.round", Rows.laid_cleanroom_digest_round), ("cleanroom/journal.errDamaged", Rows.laid_cleanroom_journal_errDamaged), ("unicode/utf8.first", Rows.laid_unicode_utf8_first)]
theorem gRound : Tryz.prog.globalNamed "cleanroom/digest.round" = some 3 := by kernel_rfl
theorem gErr : Tryz.prog.globalNamed "cleanroom/journal.errDamaged" = some 0 := by kernel_rfl
theorem tRound : (Tryz.prog.globals[3]?).map (·.type) = some 214 := by kernel_rfl
theorem tErr : (Tryz.prog.globals[0]?).map (·.type) = some 80 := by kernel_rfl
theorem eqRound : (Rows.laid_cleanroom_digest_round : DataW Unit) = Lib.tabData .u32 roundK := by kernel_rfl
theorem cell_lt {W : World} {b o : Nat} {v : Value} (h : W.cell? ⟨b, o, none⟩ = some v) : b < W.heap.size := (cell_spot h).2

theorem errRow (u : TypeId) (h : Tryz.prog.typeName? 3 u = some "*errors.errorString") : u = 222 :=
 typeName_ptr_named (nm := "errors.errorString") (by kernel_rfl) (by kernel_rfl) (by decide) u h

theorem round_of {W : World} (h : laidMet Tryz.prog laidL W) : RoundAt (gAll W) := by
 have h1 := h.tail
 rw [show (("cleanroom/digest.round", Rows.laid_cleanroom_digest_round) : String × DataW Unit) = ("cleanroom/digest.round", Lib.tabData .u32 roundK) from by rw [eqRound]] at h1
 have hT := Lib.tabIs_of_head gRound tRound Tryz.underlying214 Tryz.underlying109 (by kernel_rfl) (by kernel_rfl) h1
 have hc : ∀ (j : Nat) (y : Value), (roundK.map (Value.int .u32))[j]? = some y → W.cell? ⟨3, 0 + j, none⟩ = some y := by
  intro j y hy
  rw [List.getElem?_map, Option.map_eq_some_iff] at hy
  obtain ⟨z, hz, rfl⟩ := hy
  have hlt := (List.getElem?_eq_some_iff.1 hz).1
  rw [Nat.zero_add, hT.cell gRound j hlt, List.getD_eq_getElem?_getD, hz]
  rfl
 refine ⟨?_, hc⟩
 have h0 := hc 0 (.int .u32 (roundK.getD 0 0)) (by kernel_rfl)
 exact cell_lt h0
theorem err_of {W : World} (h : laidMet Tryz.prog laidL W) : ∃ e, ErrAt e (gAll W) := by
 have h1 := h.tail.tail
 obtain ⟨a, s, hv, _⟩ := laid_sentinel h1 gErr tErr Tryz.underlying80 errRow Tryz.underlying222 Tryz.underlying244 rfl rfl Tryz.underlying9 (by kernel_rfl) cellsString
 have hc := World.var?_cell gErr hv 0
 have hc : W.cell? ⟨0, 0, none⟩ = some (.iface 222 (.pointer (some a))) := by simpa using hc
 refine ⟨a, cell_lt hc, fun j y hy => ?_⟩
 match j, hy with
 | 0, hy => simp at hy; subst hy; exact hc
 | j + 1, hy => simp at hy

theorem opens_string : Opens Tryz.prog 9 (α := Str) fun _ => True := by
 intro H enc W fuel cs x h
 obtain ⟨s, rfl, _, _⟩ := DataW.trod_string Tryz.underlying9 h
 exact ⟨⟨s.data.toList⟩, by rw [bs_of s]; rfl, trivial⟩
theorem open_strs {H : Type} {enc : TypeId × Value → H} {W : World} {v : Value} {d : DataW H} {p : List MemPlace} (hok : Value.okWide Tryz.prog W .any 0 22 v) (h : DataW.Trod enc Tryz.prog W 0 (fun _ => true) true 22 v d p) :
  ∃ x : List Str, Rs (gAll W) v x := by
 obtain ⟨a, n, c, rfl⟩ := okWide_slice Tryz.underlying22 hok
 obtain ⟨fuel, hf⟩ := h
 obtain ⟨x, h1, _⟩ := opens_rs (α := Str) Tryz.underlying22 cellsString opens_string hf
 exact ⟨x, h1⟩
theorem open_strss {H : Type} {enc : TypeId × Value → H} {W : World} {v : Value} {d : DataW H} {p : List MemPlace} (hok : Value.okWide Tryz.prog W .any 0 48 v) (h : DataW.Trod enc Tryz.prog W 0 (fun _ => true) true 48 v d p) :
  ∃ x : List (List Str), Rs (gAll W) v x := by
 obtain ⟨a, n, c, rfl⟩ := okWide_slice Tryz.underlying48 hok
 obtain ⟨fuel, hf⟩ := h
 obtain ⟨x, h1, _⟩ := opens_rs (α := List Str) Tryz.underlying48 cellsStrings (opens_slice Tryz.underlying22 cellsString opens_string) hf
 exact ⟨x, h1⟩
theorem open_i64 {H : Type} {enc : TypeId × Value → H} {W : World} {v : Value} {d : DataW H} {p : List MemPlace} (hok : Value.okWide Tryz.prog W .any 0 3 v) (h : DataW.Trod enc Tryz.prog W 0 (fun _ => true) true 3 v d p) :
  ∃ n : Int, v = .int .i64 n ∧ (-9223372036854775808 ≤ n ∧ n ≤ 9223372036854775807) := by
 obtain ⟨n, rfl, _, _, hw⟩ := open_int Tryz.underlying3 hok h
 exact ⟨n, rfl, wf_i64 hw⟩

theorem finish_law {f : FuncId} {args : Array Value} {W : World} {s : ChangeSpec} {fn : Func} {H : Type} {enc : TypeId × Value → H} {ds : List (DataW H)} {before : List MemPlace}
  (hr : (fn.params.toList.all fun t => Tryz.prog.readableRec t && decide (t < Tryz.prog.types.size)) = true) (hv : s.vars = []) (hs : s.fn H ds = { results := [.lit (.bool true)], args := ds }) (hrt : fn.resultTypes = #[4])
  (hW : DataW.Whole enc Tryz.prog fn.params.toList s.vars false W args.toList ds [] before)
  (h : CallsIn Wd 0 Tryz.prog f args (gAll W).w (Ret (gAll W) fun _ r => r = .bool true)) :
  Calls Tryz.prog f args W fun e W' => ∃ v, e = .returned v ∧ s.post enc Tryz.prog fn false true false false W args v W' := by
 refine (callsIn_wide.1 h).mono ?_
 rintro _ _ ⟨g', v, rfl, hf, rfl, rfl⟩
 exact ⟨_, rfl, law_post laidOut hr hv hs hrt Tryz.underlying4 hW hf.below⟩

theorem wit_met (os : Os) (args : Array Value) : laidMetH Tryz.prog laidL ((World.laidAll Tryz.prog os laidL).forCall (fun _ _ => 0) ⟨#[], args, []⟩).memory := by
 rw [MakeChecks.laidMetH_plain _ _ _ (by kernel_rfl)]
 exact laidMet_laidAll _ (by kernel_rfl) (by kernel_rfl)
end Go.Proofs.YteohjgndanlldaaGreatDoor

/- The opening of a list of integers. -/
namespace Go.Proofs.YteohjgndanlldaaGreatDoor
open Go Go.K Go.RowKit Go.ChangeShapes Go.WideShapes
set_option maxRecDepth 100000

theorem open_intsJ {H : Type} {enc : TypeId × Value → H} {W : World} {v : Value} {d : DataW H} {p : List MemPlace} (hok : Value.okWide Tryz.prog W .any 0 56 v) (h : DataW.Trod enc Tryz.prog W 0 (fun _ => true) true 56 v d p) :
  ∃ x : List Int, Rs (gAll W) v x := by
 obtain ⟨a, n, c, rfl⟩ := okWide_slice Tryz.underlying56 hok
 obtain ⟨fuel, hf⟩ := h
 obtain ⟨x, h1, _⟩ := opens_rs (α := Int) Tryz.underlying56 cellsInt (opens_int Tryz.underlying3) hf
 exact ⟨x, h1⟩
end Go.Proofs.YteohjgndanlldaaGreatDoor

/- The opening of a list of operations. -/
namespace Go.Proofs.YteohjgndanlldaaGreatDoor
open Go Go.K Go.RowKit Go.ChangeShapes Go.WideShapes
set_option maxRecDepth 100000

theorem cellsInts : Tryz.prog.cellsOf 56 = 1 := by kernel_rfl
theorem cellsOp : Tryz.prog.cellsOf 62 = 4 := by kernel_rfl
theorem opens_field {P : Program} {t : TypeId} {fs : Array Field} (ht : P.underlying t = some (.struct fs)) {H : Type} {enc : TypeId × Value → H} {W : World} {fuel : Nat} {cs : List Value} {x : DataW H × List MemPlace} (h : DataW.trod enc P W 0 (fun _ => true) true fuel t cs = some x) :
  cs.length = P.cellsOf t ∧ ∀ (i : Nat) (u : TypeId) (off : Nat), (fs[i]?).map (fun f => (f.type, f.offset)) = some (u, off) → ∃ n y, DataW.trod enc P W 0 (fun _ => true) true n u ((cs.drop off).take (P.cellsOf u)) = some y := by
 obtain ⟨xs, n, _, _, hl, hxl, hf⟩ := DataW.trod_struct ht h
 refine ⟨hl, fun i u off hiu => ⟨n, ?_⟩⟩
 obtain ⟨f, hi, e⟩ := Option.map_eq_some_iff.1 hiu
 simp only [Prod.mk.injEq] at e
 obtain ⟨rfl, rfl⟩ := e
 have h1 := hf i f hi
 have hlt : i < xs.length := by rw [hxl]; exact (Array.getElem?_eq_some_iff.1 hi).1
 rw [List.getElem?_eq_getElem hlt] at h1
 exact ⟨_, h1⟩
theorem one_int {H : Type} {enc : TypeId × Value → H} {W : World} {n : Nat} {c : Value} {y : DataW H × List MemPlace} (h : DataW.trod enc Tryz.prog W 0 (fun _ => true) true n 3 [c] = some y) : ∃ m : Int, c = .int .i64 m ∧ I64 m := by
 obtain ⟨m, e, _, hw⟩ := DataW.trod_int Tryz.underlying3 h
 exact ⟨m, (List.cons.inj e).1, wf_i64 hw⟩
theorem opens_op : Opens Tryz.prog 62 (α := OpE) fun _ => True := by
 intro H enc W fuel cs x h
 obtain ⟨hl, hf⟩ := opens_field Tryz.underlying62 h
 rw [cellsOp] at hl
 match cs, hl with
 | [c0, c1, c2, c3], _ =>
  obtain ⟨_, _, h0⟩ := hf 0 3 0 rfl
  obtain ⟨_, _, h1⟩ := hf 1 22 1 rfl
  obtain ⟨_, _, h2⟩ := hf 2 3 2 rfl
  obtain ⟨_, _, h3⟩ := hf 3 56 3 rfl
  rw [cellsInt] at h0 h2
  rw [cellsStrings] at h1
  rw [cellsInts] at h3
  obtain ⟨m0, rfl, hm0⟩ := one_int h0
  obtain ⟨m2, rfl, hm2⟩ := one_int h2
  obtain ⟨l1, r1, _⟩ := opens_rs (α := Str) (v := c1) Tryz.underlying22 cellsString opens_string h1
  obtain ⟨l3, r3, _⟩ := opens_rs (α := Int) (v := c3) Tryz.underlying56 cellsInt (opens_int Tryz.underlying3) h3
  obtain ⟨a1, b1, rfl⟩ := r1.isSlice
  obtain ⟨a3, b3, rfl⟩ := r3.isSlice
  exact ⟨⟨m0, l1, m2, l3⟩, ⟨a1, _, b1, a3, _, b3, rfl, r1, r3, hm0, hm2⟩, trivial⟩
theorem open_ops {H : Type} {enc : TypeId × Value → H} {W : World} {v : Value} {d : DataW H} {p : List MemPlace} (hok : Value.okWide Tryz.prog W .any 0 60 v) (h : DataW.Trod enc Tryz.prog W 0 (fun _ => true) true 60 v d p) :
  ∃ x : List OpE, Rs (gAll W) v x := by
 obtain ⟨a, n, c, rfl⟩ := okWide_slice Tryz.underlying60 hok
 obtain ⟨fuel, hf⟩ := h
 obtain ⟨x, h1, _⟩ := opens_rs (α := OpE) Tryz.underlying60 cellsOp opens_op hf
 exact ⟨x, h1⟩
end Go.Proofs.YteohjgndanlldaaGreatDoor
