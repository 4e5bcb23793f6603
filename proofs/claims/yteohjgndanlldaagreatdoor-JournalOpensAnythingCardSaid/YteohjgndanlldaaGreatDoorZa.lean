/- From the given statements to contracts. -/
import Derived.Test.YteohjgndanlldaaGreatDoorWa
import Derived.Test.YteohjgndanlldaaGreatDoorWe
import Derived.Test.YteohjgndanlldaaGreatDoorKh
import Derived.Test.YteohjgndanlldaaGreatDoorRows
import Derived.Lib.LaidTab
import Derived.Stop.LaidErr
import Derived.Lay
import Derived.LaidMore

/- From the given statements to my contracts: what the arguments and the listed variables hold. -/
namespace Go.Proofs.YteohjgndanlldaaGreatDoor
open Go Go.K Go.RowKit Go.ChangeShapes Go.WideShapes
set_option maxRecDepth 100000

theorem ownKnob_none : ownKnob Tryz.prog.godebug = none := by kernel_rfl
theorem laidOut : laidOutB Tryz.prog = true := by kernel_rfl
theorem cellsInt : Tryz.prog.cellsOf 3 = 1 := by kernel_rfl
theorem cellsString : Tryz.prog.cellsOf 9 = 1 := by kernel_rfl
theorem cellsStrings : Tryz.prog.cellsOf 22 = 1 := by kernel_rfl

def laidL : List (String × DataW Unit) := [("unicode/utf8.acceptRanges", Rows.laid_unicode_utf8_acceptRanges), ("cleanroom/digest.round", Rows.laid_cleanroom_digest_round), ("cleanroom/journal.errDamaged", Rows.laid_cleanroom_journal_errDamaged), ("unicode/utf8.first", Rows.laid_unicode_utf8_first)]
theorem gRound : Tryz.prog.globalNamed "cleanroom/digest.round" = some 3 := by kernel_rfl
theorem gErr : Tryz.prog.globalNamed "cleanroom/journal.errDamaged" = some 0 := by kernel_rfl
theorem tRound : (Tryz.prog.globals[3]?).map (·.type) = some 214 := by kernel_rfl
theorem tErr : (Tryz.prog.globals[0]?).map (·.type) = some 80 := by kernel_rfl
theorem eqRound : (Rows.laid_cleanroom_digest_round : DataW Unit) = Lib.tabData .u32 roundK := by kernel_rfl
theorem cell_lt {W : World} {b o : Nat} {v : Value} (h : W.cell? ⟨b, o, none⟩ = some v) : b < W.heap.size := (cell_spot h).2

theorem errRow (u : TypeId) (h : Tryz.prog.typeName? 3 u = some "*errors.errorString") : u = 222 :=
 typeName_ptr_named (nm := "errors.errorString") (by kernel_rfl) (by kernel_rfl) (by decide) u h

theorem round_of {W : World} (h : laidMet Tryz.prog laidL W) : RoundAt (gAll W) := by
 have h1 := h.tail
 rw [show (("cleanroom/digest.round", Rows.laid_cleanroom_digest_round) : String × DataW Unit) = ("cleanroom/digest.round", Lib.tabData .u32 roundK) from by rw [eqRound]] at h1
 have hT := Lib.tabIs_of_head gRound tRound Tryz.underlying214 Tryz.underlying109 (by kernel_rfl) (by kernel_rfl) h1
 have hc : ∀ (j : Nat) (y : Value), (roundK.map (Value.int .u32))[j]? = some y → W.cell? ⟨3, 0 + j, none⟩ = some y := by
  intro j y hy
  rw [List.getElem?_map, Option.map_eq_some_iff] at hy
  obtain ⟨z, hz, rfl⟩ := hy
  have hlt := (List.getElem?_eq_some_iff.1 hz).1
  rw [Nat.zero_add, hT.cell gRound j hlt, List.getD_eq_getElem?_getD, hz]
  rfl
 refine ⟨?_, hc⟩
 have h0 := hc 0 (.int .u32 (roundK.getD 0 0)) (by kernel_rfl)
 exact cell_lt h0
theorem err_of {W : World} (h : laidMet Tryz.prog laidL W) : ∃ e, ErrAt e (gAll W) := by
 have h1 := h.tail.tail
 obtain ⟨a, s, hv, _⟩ := laid_sentinel h1 gErr tErr Tryz.underlying80 errRow Tryz.underlying222 Tryz.underlying244 rfl rfl Tryz.underlying9 (by kernel_rfl) cellsString
 have hc := World.var?_cell gErr hv 0
 have hc : W.cell? ⟨0, 0, none⟩ = some (.iface 222 (.pointer (some a))) := by simpa using hc
 refine ⟨a, cell_lt hc, fun j y hy => ?_⟩
 match j, hy with
 | 0, hy => simp at hy; subst hy; exact hc
 | j + 1, hy => simp at hy

theorem opens_string : Opens Tryz.prog 9 (α := Str) fun _ => True := by
 intro H enc W fuel cs x h
 obtain ⟨s, rfl, _, _⟩ := DataW.trod_string Tryz.underlying9 h
 exact ⟨⟨s.data.toList⟩, by rw [bs_of s]; rfl, trivial⟩
theorem open_strs {H : Type} {enc : TypeId × Value → H} {W : World} {v : Value} {d : DataW H} {p : List MemPlace} (hok : Value.okWide Tryz.prog W .any 0 22 v) (h : DataW.Trod enc Tryz.prog W 0 (fun _ => true) true 22 v d p) :
  ∃ x : List Str, Rs (gAll W) v x := by
 obtain ⟨a, n, c, rfl⟩ := okWide_slice Tryz.underlying22 hok
 obtain ⟨fuel, hf⟩ := h
 obtain ⟨x, h1, _⟩ := opens_rs (α := Str) Tryz.underlying22 cellsString opens_string hf
 exact ⟨x, h1⟩
theorem open_strss {H : Type} {enc : TypeId × Value → H} {W : World} {v : Value} {d : DataW H} {p : List MemPlace} (hok : Value.okWide Tryz.prog W .any 0 48 v) (h : DataW.Trod enc Tryz.prog W 0 (fun _ => true) true 48 v d p) :
  ∃ x : List (List Str), Rs (gAll W) v x := by
 obtain ⟨a, n, c, rfl⟩ := okWide_slice Tryz.underlying48 hok
 obtain ⟨fuel, hf⟩ := h
 obtain ⟨x, h1, _⟩ := opens_rs (α := List Str) Tryz.underlying48 cellsStrings (opens_slice Tryz.underlying22 cellsString opens_string) hf
 exact ⟨x, h1⟩
theorem open_i64 {H : Type} {enc : TypeId × Value → H} {W : World} {v : Value} {d : DataW H} {p : List MemPlace} (hok : Value.okWide Tryz.prog W .any 0 3 v) (h : DataW.Trod enc Tryz.prog W 0 (fun _ => true) true 3 v d p) :
  ∃ n : Int, v = .int .i64 n ∧ (-9223372036854775808 ≤ n ∧ n ≤ 9223372036854775807) := by
 obtain ⟨n, rfl, _, _, hw⟩ := open_int Tryz.underlying3 hok h
 exact ⟨n, rfl, wf_i64 hw⟩

theorem finish_law {f : FuncId} {args : Array Value} {W : World} {s : ChangeSpec} {fn : Func} {H : Type} {enc : TypeId × Value → H} {ds : List (DataW H)} {before : List MemPlace}
  (hr : (fn.params.toList.all fun t => Tryz.prog.readableRec t && decide (t < Tryz.prog.types.size)) = true) (hv : s.vars = []) (hs : s.fn H ds = { results := [.lit (.bool true)], args := ds }) (hrt : fn.resultTypes = #[4])
  (hW : DataW.Whole enc Tryz.prog fn.params.toList s.vars false W args.toList ds [] before)
  (h : CallsIn Wd 0 Tryz.prog f args (gAll W).w (Ret (gAll W) fun _ r => r = .bool true)) :
  Calls Tryz.prog f args W fun e W' => ∃ v, e = .returned v ∧ s.post enc Tryz.prog fn false true false false W args v W' := by
 refine (callsIn_wide.1 h).mono ?_
 rintro _ _ ⟨g', v, rfl, hf, rfl, rfl⟩
 exact ⟨_, rfl, law_post laidOut hr hv hs hrt Tryz.underlying4 hW hf.below⟩

theorem wit_met (os : Os) (args : Array Value) : laidMetH Tryz.prog laidL ((World.laidAll Tryz.prog os laidL).forCall (fun _ _ => 0) ⟨#[], args, []⟩).memory := by
 rw [MakeChecks.laidMetH_plain _ _ _ (by kernel_rfl)]
 exact laidMet_laidAll _ (by kernel_rfl) (by kernel_rfl)
end Go.Proofs.YteohjgndanlldaaGreatDoor

/- The opening of a byte. -/
namespace Go.Proofs.YteohjgndanlldaaGreatDoor
open Go Go.K Go.RowKit Go.ChangeShapes Go.WideShapes
set_option maxRecDepth 100000

theorem open_u8 {H : Type} {enc : TypeId × Value → H} {W : World} {v : Value} {d : DataW H} {p : List MemPlace} (hok : Value.okWide Tryz.prog W .any 0 5 v) (h : DataW.Trod enc Tryz.prog W 0 (fun _ => true) true 5 v d p) :
  ∃ b : UInt8, v = .int .u8 (b.toNat : Int) := by
 obtain ⟨n, rfl, _, _, hw⟩ := open_int Tryz.underlying5 hok h
 have h2 : 0 ≤ n ∧ n ≤ 255 := by
  simp only [Lit.wf, Bool.and_eq_true, decide_eq_true_eq] at hw
  exact hw
 exact ⟨UInt8.ofNat n.toNat, by rw [UInt8.toNat_ofNat']; congr 1; omega⟩
end Go.Proofs.YteohjgndanlldaaGreatDoor

/- The opening of a string. -/
namespace Go.Proofs.YteohjgndanlldaaGreatDoor
open Go Go.K Go.RowKit Go.ChangeShapes Go.WideShapes
set_option maxRecDepth 100000

theorem open_str {W : World} {v : Value} (hok : Value.okWide Tryz.prog W .any 0 9 v) : ∃ s : List UInt8, v = .string (bs s) := by
 obtain ⟨s, rfl⟩ := okWide_string Tryz.underlying9 hok
 exact ⟨s.data.toList, congrArg Value.string (bs_of s)⟩
end Go.Proofs.YteohjgndanlldaaGreatDoor
