/- The walks through the reference's digest: a block. -/
import Derived.Test.YteohjgndanlldaaGreatDoorWa
import Derived.Test.YteohjgndanlldaaGreatDoorKh

/- The reference's digest, in plain Lean: it is the digest that package digest computes. -/
namespace Go.Proofs.YteohjgndanlldaaGreatDoor
open Go Go.K
set_option maxRecDepth 10000
attribute [local irreducible] W WL OpR bitAnd bitOr bitXor bitClr bitNot shlI shrI

def rotR (x n : Int) : Int := bitOr .u32 (shrI .u32 x n.toNat) (shlI .u32 x (32 - n).toNat)
theorem bitOr_comm (k : IntKind) (a b : Int) : bitOr k a b = bitOr k b a := by
 unfold bitOr; rw [BitVec.or_comm]
theorem wrap32 (n : Nat) (h : n < 4294967296) : IntKind.u32.wrap (n : Int) = n := by
 unfold IntKind.wrap; simp [IntKind.signed, IntKind.bits]; omega
theorem xor0_or (a b : Int) : bitXor .u32 0 (bitOr .u32 a b) = bitOr .u32 a b := by
 unfold bitXor bitOr
 generalize hX : (BitVec.ofInt IntKind.u32.bits a ||| BitVec.ofInt IntKind.u32.bits b) = X
 have hlt : X.toNat < 4294967296 := X.isLt
 rw [wrap32 _ hlt]
 have e : BitVec.ofInt IntKind.u32.bits ((X.toNat : Nat) : Int) = X := by
  simp
 rw [e]
 have e0 : BitVec.ofInt IntKind.u32.bits 0 = 0#IntKind.u32.bits := by decide
 rw [e0, BitVec.zero_xor, wrap32 _ hlt]
theorem rotS_neg {n : Int} (h1 : 1 ≤ n) (h2 : n ≤ 31) (hn : rotS (IntKind.i64.wrap (0 - n)) = 32 - n) (x : Int) : rotl x (IntKind.i64.wrap (0 - n)) = rotR x n := by
 unfold rotl rotR
 rw [hn, show (32 : Int) - (32 - n) = n from by omega, bitOr_comm]
 have : IntKind.u64.wrap n = n := by unfold IntKind.wrap; simp [IntKind.signed, IntKind.bits]; omega
 rw [this]
theorem mix1 (x out : Int) {n : Int} (h1 : 1 ≤ n) (h2 : n ≤ 31) (hn : rotS (IntKind.i64.wrap (0 - n)) = 32 - n) : mixStep x out n = bitXor .u32 out (rotR x n) := by
 unfold mixStep; rw [rotS_neg h1 h2 hn]
theorem mix2 (x a b : Int) (ha : 1 ≤ a ∧ a ≤ 31 ∧ rotS (IntKind.i64.wrap (0 - a)) = 32 - a) (hb : 1 ≤ b ∧ b ≤ 31 ∧ rotS (IntKind.i64.wrap (0 - b)) = 32 - b) : mixM x [a, b] = bitXor .u32 (rotR x a) (rotR x b) := by
 show mixStep x (mixStep x 0 a) b = _
 rw [mix1 x _ hb.1 hb.2.1 hb.2.2, mix1 x _ ha.1 ha.2.1 ha.2.2]
 congr 1
 exact xor0_or _ _
theorem mix3 (x a b c : Int) (ha : 1 ≤ a ∧ a ≤ 31 ∧ rotS (IntKind.i64.wrap (0 - a)) = 32 - a) (hb : 1 ≤ b ∧ b ≤ 31 ∧ rotS (IntKind.i64.wrap (0 - b)) = 32 - b) (hc : 1 ≤ c ∧ c ≤ 31 ∧ rotS (IntKind.i64.wrap (0 - c)) = 32 - c) :
  mixM x [a, b, c] = bitXor .u32 (bitXor .u32 (rotR x a) (rotR x b)) (rotR x c) := by
 show mixStep x (mixM x [a, b]) c = _
 rw [mix1 x _ hc.1 hc.2.1 hc.2.2, mix2 x a b ha hb]
theorem mixX (x : Int) : mixM x [7, 18] = bitXor .u32 (rotR x 7) (rotR x 18) := mix2 x 7 18 (by decide +kernel) (by decide +kernel)
theorem mixY (x : Int) : mixM x [17, 19] = bitXor .u32 (rotR x 17) (rotR x 19) := mix2 x 17 19 (by decide +kernel) (by decide +kernel)
theorem mixE (x : Int) : mixM x [6, 11, 25] = bitXor .u32 (bitXor .u32 (rotR x 6) (rotR x 11)) (rotR x 25) := mix3 x 6 11 25 (by decide +kernel) (by decide +kernel) (by decide +kernel)
theorem mixA (x : Int) : mixM x [2, 13, 22] = bitXor .u32 (bitXor .u32 (rotR x 2) (rotR x 13)) (rotR x 22) := mix3 x 2 13 22 (by decide +kernel) (by decide +kernel) (by decide +kernel)

theorem take_set {α : Type} (l : List α) (n : Nat) (x : α) (h : n < l.length) : (l.set n x).take (n + 1) = l.take n ++ [x] := by
 rw [List.take_add_one, List.getElem?_set_self h, List.take_set_of_le (Nat.le_refl _)]; rfl
theorem schedA_take (b : List UInt8) (i : Nat) (h : i < 64) : (schedA b (i + 1)).take (i + 1) = (schedA b i).take i ++ [wordAt b i] := by
 rw [schedA_succ, take_set _ _ _ (by rw [schedA_len]; exact h)]
theorem schedB_take (b : List UInt8) (i : Nat) (h : i < 48) : (schedB b (i + 1)).take (16 + i + 1) = (schedB b i).take (16 + i) ++ [nextW (schedB b i) (16 + i)] := by
 rw [schedB_succ, take_set _ _ _ (by rw [schedB_len]; omega)]
theorem dTo_take (h : V8) (n : Nat) (hn : n < 32) : (dTo h (n + 1)).take (n + 1) = (dTo h n).take n ++ [dByte h (n / 4) (n % 4)] := by
 rw [dTo_succ, take_set _ _ _ (by rw [dTo_len]; exact hn)]
theorem cells_take {ws : List Int} {n j : Nat} (hj : j < n) (hn : n ≤ ws.length) : ((ws.take n).map (Value.int .u32))[j]? = some (.int .u32 (ws.getD j 0)) := by
 rw [List.getElem?_map, List.getElem?_take_of_lt hj, List.getD_eq_getElem?_getD, List.getElem?_eq_getElem (by omega)]; rfl

structure U32 where
 n : Int
instance : El U32 where
 k := 1
 pos := by omega
 rc _ cs x := cs = [.int .u32 x.n]
 len h := by rw [h]; rfl
 mono _ h := h
 one h := by rw [h]; simp [Value.oneCell']
theorem RcL.u32s (g : G) : ∀ xs : List Int, RcL g (xs.map (Value.int .u32)) (xs.map U32.mk)
 | [] => rfl
 | x :: xs => ⟨[.int .u32 x], xs.map (Value.int .u32), rfl, rfl, RcL.u32s g xs⟩
theorem RcL.u32s_inv {g : G} : ∀ {xs : List Int} {cs : List Value}, RcL g cs (xs.map U32.mk) → cs = xs.map (Value.int .u32)
 | [], _, h => h
 | x :: xs, _, ⟨_, _, e, h1, h2⟩ => by rw [e, RcL.u32s_inv h2, show _ = [Value.int .u32 x] from h1]; rfl
end Go.Proofs.YteohjgndanlldaaGreatDoor

/- The reference's digest: rotations and constants. -/
namespace Go.Proofs.YteohjgndanlldaaGreatDoor
open Go Go.K
set_option maxRecDepth 10000
attribute [local irreducible] W WL OpR bitAnd bitOr bitXor bitClr bitNot shlI shrI
set_option maxHeartbeats 2000000

theorem rotated_c (x n : Int) (h0 : 0 ≤ n) (h1 : n ≤ 32) (g : G) : CallsIn Wd 0 Tryz.prog 87 #[.int .u32 x, .int .i64 n] g.w (Ret g fun _ r => r = .int .u32 (rotR x n)) := by
 have hs := St.start g
 have le0 := G.le.refl g
 refine enter Tryz.func87 rfl Tryz.ntmps87 rfl ?_
 refine W_seq ?_; refine W_region ?_; refine P1 T.ok rfl rfl rfl ?_; refine WL_nil ?_; (with_reducible refine T_then ?_); refine W_seq ?_
 apply W_draw allF rfl (Fact.eq _ :: Fact.eq _ :: Fact.eq _ :: Fact.eq _ :: Fact.eq _ :: Fact.eq _ :: Fact.eq _ :: Fact.eq _ :: []) 8 [(7, 12)] rfl rfl
 ·refine D_s (js := []) (by kernel_rfl) (fun _ _ => QA_nil (DPu T.ok rfl rfl rfl)) ?_
  refine D_s (js := []) (by kernel_rfl) (fun _ _ => QA_nil (DPu T.ok rfl rfl rfl)) ?_
  refine D_cons (D_step2 (js := [(0, 5), (1, 6)]) (by kernel_rfl) fun gd hf => ?_) ?_
  ·have hsd := hs.dr.call hf; have hfe := (G.le_dr _).trans hf.le
   refine QA_eq rfl ?_; refine QA_eq rfl ?_
   refine QA_nil ?_
   refine D_yes rfl ?_
   refine OpR_shrV rfl rfl rfl h0 ?_
   exact ⟨_, rfl, Fr0.refl _, rfl⟩
  refine D_s (js := []) (by kernel_rfl) (fun _ _ => QA_nil (DPu T.ok rfl rfl rfl)) ?_
  refine D_s (js := []) (by kernel_rfl) (fun _ _ => QA_nil (DPu T.ok rfl rfl rfl)) ?_
  refine D_cons (D_step2 (js := [(4, 9)]) (by kernel_rfl) fun gd hf => ?_) ?_
  ·have hsd := hs.dr.call hf; have hfe := (G.le_dr _).trans hf.le
   refine QA_eq rfl ?_
   refine QA_nil ?_
   refine D_yes rfl ?_
   refine OpR_pure _ T.ok rfl ?_
   refine ⟨_, rfl, Fr0.refl _, ?_⟩
   exact congrArg (Value.int .i64) (show _ = 32 - n from wr (by omega) (by omega))
  refine D_cons (D_step2 (js := [(3, 8), (5, 10)]) (by kernel_rfl) fun gd hf => ?_) ?_
  ·have hsd := hs.dr.call hf; have hfe := (G.le_dr _).trans hf.le
   refine QA_eq rfl ?_; refine QA_eq rfl ?_
   refine QA_nil ?_
   refine D_yes rfl ?_
   refine OpR_shlV rfl rfl rfl (by omega) ?_
   exact ⟨_, rfl, Fr0.refl _, rfl⟩
  refine D_s (js := [(2, 7), (6, 11)]) (by kernel_rfl) (fun _ _ => QA_eq rfl (QA_eq rfl (QA_nil (DPu2 T.ok rfl rfl rfl)))) ?_
  exact D_nil
 intro g1 hf1; refine QA_eq rfl ?_; refine QA_nil ?_
 replace hs := hs.dr.call hf1; have hqe := (G.le_dr _).trans hf1.le; replace le0 := G.le.trans le0 hqe
 refine P1 T.ok rfl rfl rfl ?_; refine WL_nil ?_; (with_reducible refine T_then ?_)
 exact W_ret (ret1 rfl rfl (hs.ret rfl))
theorem constants_c (g : G) : CallsIn Wd 0 Tryz.prog 88 #[] g.w (Ret g fun g' r => Rs g' r (roundK.map U32.mk)) := by
 have hs := St.start g
 have le0 := G.le.refl g
 refine enter Tryz.func88 rfl Tryz.ntmps88 rfl ?_
 refine W_seq ?_; refine W_region ?_; refine P1 T.ok rfl rfl rfl ?_; refine WL_nil ?_; (with_reducible refine T_then ?_); refine W_seq ?_; refine W_region ?_
 refine WL_o rfl rfl (OpR_lit T.ok rfl hs (vs := [(0, .int .u32 1116352408), (1, .int .u32 1899447441), (2, .int .u32 3049323471), (3, .int .u32 3921009573), (4, .int .u32 961987163), (5, .int .u32 1508970993), (6, .int .u32 2453635748), (7, .int .u32 2870763221), (8, .int .u32 3624381080), (9, .int .u32 310598401), (10, .int .u32 607225278), (11, .int .u32 1426881987), (12, .int .u32 1925078388), (13, .int .u32 2162078206), (14, .int .u32 2614888103), (15, .int .u32 3248222580), (16, .int .u32 3835390401), (17, .int .u32 4022224774), (18, .int .u32 264347078), (19, .int .u32 604807628), (20, .int .u32 770255983), (21, .int .u32 1249150122), (22, .int .u32 1555081692), (23, .int .u32 1996064986), (24, .int .u32 2554220882), (25, .int .u32 2821834349), (26, .int .u32 2952996808), (27, .int .u32 3210313671), (28, .int .u32 3336571891), (29, .int .u32 3584528711), (30, .int .u32 113926993), (31, .int .u32 338241895), (32, .int .u32 666307205), (33, .int .u32 773529912), (34, .int .u32 1294757372), (35, .int .u32 1396182291), (36, .int .u32 1695183700), (37, .int .u32 1986661051), (38, .int .u32 2177026350), (39, .int .u32 2456956037), (40, .int .u32 2730485921), (41, .int .u32 2820302411), (42, .int .u32 3259730800), (43, .int .u32 3345764771), (44, .int .u32 3516065817), (45, .int .u32 3600352804), (46, .int .u32 4094571909), (47, .int .u32 275423344), (48, .int .u32 430227734), (49, .int .u32 506948616), (50, .int .u32 659060556), (51, .int .u32 883997877), (52, .int .u32 958139571), (53, .int .u32 1322822218), (54, .int .u32 1537002063), (55, .int .u32 1747873779), (56, .int .u32 1955562222), (57, .int .u32 2024104815), (58, .int .u32 2227730452), (59, .int .u32 2361852424), (60, .int .u32 2428436474), (61, .int .u32 2756734187), (62, .int .u32 3204031479), (63, .int .u32 3329325298)]) (cells := roundK.map (Value.int .u32)) rfl rfl rfl rfl rfl rfl (by decide) (by decide) (by kernel_rfl) rfl ?_)
 clear hs
 rintro bl gl hs hqe; replace le0 := G.le.trans le0 hqe
 obtain ⟨gz, hwz, hsz, hqz, hrl⟩ := hs.fzRow (α := U32) (xs := roundK.map U32.mk) (i := 0) rfl (RcL.u32s _ roundK)
 clear hqe; have hqe := hqz; rw [← hwz]; replace hs := hsz; clear hsz; replace le0 := G.le.trans le0 hqe
 refine P1 T.ok rfl rfl rfl ?_; refine WL_nil ?_; (with_reducible refine T_then ?_)
 exact W_ret (ret1 rfl rfl (hs.ret hrl))
end Go.Proofs.YteohjgndanlldaaGreatDoor

/- The reference's digest: a block. -/
namespace Go.Proofs.YteohjgndanlldaaGreatDoor
open Go Go.K
set_option maxRecDepth 10000
attribute [local irreducible] W WL OpR bitAnd bitOr bitXor bitClr bitNot shlI shrI
set_option maxHeartbeats 1000000

def wordPtr (x : Int) : Fact := ⟨fun v g => ∃ b p, v = .pointer (some ⟨b, p, none⟩) ∧ EP g b p [.int .u32 x], fun _ _ _ hf ⟨b, p, e, h1⟩ => ⟨b, p, e, h1.mono hf.le⟩⟩
theorem geti_u32 {xs : List Int} {n : Int} {j : Nat} (h : n = j) (hj : j < xs.length) : geti (xs.map U32.mk) n = some ⟨xs.getD j 0⟩ := by
 rw [geti_of (j := j) h (by rw [List.length_map]; exact hj), List.getElem_map, List.getD_eq_getElem?_getD, List.getElem?_eq_getElem hj]; rfl








theorem sum8_take (h V : V8) (i : Nat) (hi : i < 8) : (sum8 h V).ints.take (i + 1) = (sum8 h V).ints.take i ++ [add32 (h.ints.getD i 0) (V.ints.getD i 0)] := by
 obtain rfl | rfl | rfl | rfl | rfl | rfl | rfl | rfl : i = 0 ∨ i = 1 ∨ i = 2 ∨ i = 3 ∨ i = 4 ∨ i = 5 ∨ i = 6 ∨ i = 7 := by omega
 all_goals rfl

theorem block_c (hv : Value) (h : V8) (v : Value) (b : List UInt8) (g : G) (rs0 : Rs g v b) (hb : b.length = 64) (rs5 : Rs g hv (h.ints.map U32.mk)) :
  CallsIn Wd 0 Tryz.prog 59 #[hv, v] g.w (Ret g fun g' r => Rs g' r ((addM h b).ints.map U32.mk)) := by
 have hs := St.start g
 have le0 := G.le.refl g
 refine enter Tryz.func59 rfl Tryz.ntmps59 rfl ?_
 refine W_seq ?_; refine W_region ?_; refine P1 T.ok rfl rfl rfl ?_; refine WL_nil ?_; (with_reducible refine T_then ?_); refine W_seq ?_; refine W_region ?_; refine P1 T.ok rfl rfl rfl ?_; refine WL_nil ?_; (with_reducible refine T_then ?_); refine W_seq ?_; refine W_seq ?_; refine W_region ?_; refine P1 T.ok rfl rfl rfl ?_; refine WL_nil ?_; (with_reducible refine T_then ?_); refine W_block ?_
 replace hs := hs.nilrow 109 1 none
 have rs0c := rs0; have rs5c := rs5
 refine W_loop (fun m a' w => ∃ (i : Nat) (ad : Option Addr) (c : Nat) (g2 : G), w = g2.w ∧ St g g2 [.row 109 1 (.slice ad i c) i (((schedA b i).take i).map (Value.int .u32))] ∧ G.le g g2 ∧ i ≤ 16 ∧ m = 16 - i ∧
   Fr 238 [] [(0, hv), (1, v), (5, .slice ad i c), (6, .int .i64 i)] a') 16
  (fun a' ha => ⟨0, none, 0, g, rfl, hs, le0, Nat.zero_le _, rfl, ha.keep (by (repeat (first | exact trivial | refine ⟨rfl, ?_⟩)))⟩) ?_
 clear hs le0 rs0 rs5
 rintro m a' _ ⟨i, ad, cc, g2, rfl, hs, le0, hi, rfl, ha'⟩
 have rs0 := rs0c.mono le0
 have rs5 := rs5c.mono le0
 revert a'
 (with_reducible refine T_wp ?_); refine W_seq ?_; refine W_seq ?_; refine W_region ?_; refine P1 T.ok rfl rfl rfl ?_; refine P1 T.ok rfl rfl rfl ?_; refine WL_nil ?_; (with_reducible refine T_then ?_)
 by_cases hlt : i < 16
 ·refine W_yes (b := decide ((i : Int) < 16)) (decide_eq_true (by omega)) rfl ?_
  have hsn := schedA_take b i (by omega)
  refine W_skip ?_; (with_reducible refine T_then ?_); refine W_seq ?_; refine W_block ?_
  apply W_draw allF rfl (Fact.eq _ :: Fact.eq _ :: Fact.eq _ :: Fact.eq _ :: (bytePtr (b.getD (4 * i) 0)) :: Fact.eq _ :: Fact.eq _ :: Fact.eq _ :: Fact.eq _ :: Fact.eq _ :: Fact.eq _ :: Fact.eq _ :: (bytePtr (b.getD (4 * i + 1) 0)) :: Fact.eq _ :: Fact.eq _ :: Fact.eq _ :: Fact.eq _ :: Fact.eq _ :: Fact.eq _ :: Fact.eq _ :: Fact.eq _ :: (bytePtr (b.getD (4 * i + 2) 0)) :: Fact.eq _ :: Fact.eq _ :: Fact.eq _ :: Fact.eq _ :: Fact.eq _ :: Fact.eq _ :: Fact.eq _ :: Fact.eq _ :: (bytePtr (b.getD (4 * i + 3) 0)) :: Fact.eq _ :: Fact.eq _ :: Fact.eq _ :: (Fact.rs ([⟨wordAt b i⟩] : List U32)) :: []) 35 [(0, 23), (34, 57)] rfl rfl
  ·refine D_s (js := []) (by kernel_rfl) (fun _ _ => QA_nil (DPu T.ok rfl rfl rfl)) ?_
   refine D_s (js := []) (by kernel_rfl) (fun _ _ => QA_nil (DPu T.ok rfl rfl rfl)) ?_
   refine D_s (js := []) (by kernel_rfl) (fun _ _ => QA_nil (DPu T.ok rfl rfl rfl)) ?_
   refine D_cons (D_step2 (js := [(2, 25)]) (by kernel_rfl) fun gd hf => ?_) ?_
   ·have hsd := hs.dr.call hf; have hfe := (G.le_dr _).trans hf.le
    refine QA_eq rfl ?_
    refine QA_nil ?_
    refine D_yes rfl ?_
    refine OpR_pure _ T.ok rfl ?_
    refine ⟨_, rfl, Fr0.refl _, ?_⟩
    exact congrArg (Value.int .i64) (show _ = ((4 * i : Nat) : Int) from by (try rw [wr (by omega) (by omega)]); (try rw [wr (by omega) (by omega)]); omega)
   refine D_cons (D_step2 (js := [(1, 24), (3, 26)]) (by kernel_rfl) fun gd hf => ?_) ?_
   ·have hsd := hs.dr.call hf; have hfe := (G.le_dr _).trans hf.le
    refine QA_eq rfl ?_; refine QA_eq rfl ?_
    refine QA_nil ?_
    refine D_yes rfl ?_
    refine OpR_idx T.ok rfl (rs0.mono hfe) (y := b.getD (4 * i) 0) (geti_getD (j := 4 * i) rfl (by omega)) rfl rfl rfl rfl rfl rfl ?_
    intro bb p ys hep hrc
    exact ⟨_, rfl, Fr0.refl _, bb, p, rfl, by rw [← show ys = [Value.int .u8 ((b.getD (4 * i) 0).toNat : Int)] from hrc]; exact hep⟩
   refine D_cons (D_step2 (js := [(4, 27)]) (by kernel_rfl) fun gd hf => ?_) ?_
   ·have hsd := hs.dr.call hf; have hfe := (G.le_dr _).trans hf.le
    refine QA_any fun v4 h4 => ?_
    refine QA_nil ?_
    obtain ⟨bb, p, rfl, hep⟩ := h4
    refine D_yes rfl ?_
    refine OpR_loadE T.ok 0 rfl hep rfl rfl ?_
    refine ⟨_, rfl, Fr0.refl _, ?_⟩
    exact rfl
   refine D_s (js := [(5, 28)]) (by kernel_rfl) (fun _ _ => QA_eq rfl (QA_nil (DPu2 T.ok rfl rfl rfl))) ?_
   refine D_s (js := [(6, 29)]) (by kernel_rfl) (fun _ _ => QA_eq rfl (QA_nil (DPu2 T.ok rfl rfl rfl))) ?_
   refine D_s (js := []) (by kernel_rfl) (fun _ _ => QA_nil (DPu T.ok rfl rfl rfl)) ?_
   refine D_s (js := []) (by kernel_rfl) (fun _ _ => QA_nil (DPu T.ok rfl rfl rfl)) ?_
   refine D_cons (D_step2 (js := [(9, 32)]) (by kernel_rfl) fun gd hf => ?_) ?_
   ·have hsd := hs.dr.call hf; have hfe := (G.le_dr _).trans hf.le
    refine QA_eq rfl ?_
    refine QA_nil ?_
    refine D_yes rfl ?_
    refine OpR_pure _ T.ok rfl ?_
    refine ⟨_, rfl, Fr0.refl _, ?_⟩
    exact congrArg (Value.int .i64) (show _ = ((4 * i : Nat) : Int) from by (try rw [wr (by omega) (by omega)]); (try rw [wr (by omega) (by omega)]); omega)
   refine D_cons (D_step2 (js := [(10, 33)]) (by kernel_rfl) fun gd hf => ?_) ?_
   ·have hsd := hs.dr.call hf; have hfe := (G.le_dr _).trans hf.le
    refine QA_eq rfl ?_
    refine QA_nil ?_
    refine D_yes rfl ?_
    refine OpR_pure _ T.ok rfl ?_
    refine ⟨_, rfl, Fr0.refl _, ?_⟩
    exact congrArg (Value.int .i64) (show _ = ((4 * i + 1 : Nat) : Int) from by (try rw [wr (by omega) (by omega)]); (try rw [wr (by omega) (by omega)]); omega)
   refine D_cons (D_step2 (js := [(8, 31), (11, 34)]) (by kernel_rfl) fun gd hf => ?_) ?_
   ·have hsd := hs.dr.call hf; have hfe := (G.le_dr _).trans hf.le
    refine QA_eq rfl ?_; refine QA_eq rfl ?_
    refine QA_nil ?_
    refine D_yes rfl ?_
    refine OpR_idx T.ok rfl (rs0.mono hfe) (y := b.getD (4 * i + 1) 0) (geti_getD (j := 4 * i + 1) rfl (by omega)) rfl rfl rfl rfl rfl rfl ?_
    intro bb p ys hep hrc
    exact ⟨_, rfl, Fr0.refl _, bb, p, rfl, by rw [← show ys = [Value.int .u8 ((b.getD (4 * i + 1) 0).toNat : Int)] from hrc]; exact hep⟩
   refine D_cons (D_step2 (js := [(12, 35)]) (by kernel_rfl) fun gd hf => ?_) ?_
   ·have hsd := hs.dr.call hf; have hfe := (G.le_dr _).trans hf.le
    refine QA_any fun v12 h12 => ?_
    refine QA_nil ?_
    obtain ⟨bb, p, rfl, hep⟩ := h12
    refine D_yes rfl ?_
    refine OpR_loadE T.ok 0 rfl hep rfl rfl ?_
    refine ⟨_, rfl, Fr0.refl _, ?_⟩
    exact rfl
   refine D_s (js := [(13, 36)]) (by kernel_rfl) (fun _ _ => QA_eq rfl (QA_nil (DPu2 T.ok rfl rfl rfl))) ?_
   refine D_s (js := [(14, 37)]) (by kernel_rfl) (fun _ _ => QA_eq rfl (QA_nil (DPu2 T.ok rfl rfl rfl))) ?_
   refine D_s (js := [(7, 30), (15, 38)]) (by kernel_rfl) (fun _ _ => QA_eq rfl (QA_eq rfl (QA_nil (DPu2 T.ok rfl rfl rfl)))) ?_
   refine D_s (js := []) (by kernel_rfl) (fun _ _ => QA_nil (DPu T.ok rfl rfl rfl)) ?_
   refine D_s (js := []) (by kernel_rfl) (fun _ _ => QA_nil (DPu T.ok rfl rfl rfl)) ?_
   refine D_cons (D_step2 (js := [(18, 41)]) (by kernel_rfl) fun gd hf => ?_) ?_
   ·have hsd := hs.dr.call hf; have hfe := (G.le_dr _).trans hf.le
    refine QA_eq rfl ?_
    refine QA_nil ?_
    refine D_yes rfl ?_
    refine OpR_pure _ T.ok rfl ?_
    refine ⟨_, rfl, Fr0.refl _, ?_⟩
    exact congrArg (Value.int .i64) (show _ = ((4 * i : Nat) : Int) from by (try rw [wr (by omega) (by omega)]); (try rw [wr (by omega) (by omega)]); omega)
   refine D_cons (D_step2 (js := [(19, 42)]) (by kernel_rfl) fun gd hf => ?_) ?_
   ·have hsd := hs.dr.call hf; have hfe := (G.le_dr _).trans hf.le
    refine QA_eq rfl ?_
    refine QA_nil ?_
    refine D_yes rfl ?_
    refine OpR_pure _ T.ok rfl ?_
    refine ⟨_, rfl, Fr0.refl _, ?_⟩
    exact congrArg (Value.int .i64) (show _ = ((4 * i + 2 : Nat) : Int) from by (try rw [wr (by omega) (by omega)]); (try rw [wr (by omega) (by omega)]); omega)
   refine D_cons (D_step2 (js := [(17, 40), (20, 43)]) (by kernel_rfl) fun gd hf => ?_) ?_
   ·have hsd := hs.dr.call hf; have hfe := (G.le_dr _).trans hf.le
    refine QA_eq rfl ?_; refine QA_eq rfl ?_
    refine QA_nil ?_
    refine D_yes rfl ?_
    refine OpR_idx T.ok rfl (rs0.mono hfe) (y := b.getD (4 * i + 2) 0) (geti_getD (j := 4 * i + 2) rfl (by omega)) rfl rfl rfl rfl rfl rfl ?_
    intro bb p ys hep hrc
    exact ⟨_, rfl, Fr0.refl _, bb, p, rfl, by rw [← show ys = [Value.int .u8 ((b.getD (4 * i + 2) 0).toNat : Int)] from hrc]; exact hep⟩
   refine D_cons (D_step2 (js := [(21, 44)]) (by kernel_rfl) fun gd hf => ?_) ?_
   ·have hsd := hs.dr.call hf; have hfe := (G.le_dr _).trans hf.le
    refine QA_any fun v21 h21 => ?_
    refine QA_nil ?_
    obtain ⟨bb, p, rfl, hep⟩ := h21
    refine D_yes rfl ?_
    refine OpR_loadE T.ok 0 rfl hep rfl rfl ?_
    refine ⟨_, rfl, Fr0.refl _, ?_⟩
    exact rfl
   refine D_s (js := [(22, 45)]) (by kernel_rfl) (fun _ _ => QA_eq rfl (QA_nil (DPu2 T.ok rfl rfl rfl))) ?_
   refine D_s (js := [(23, 46)]) (by kernel_rfl) (fun _ _ => QA_eq rfl (QA_nil (DPu2 T.ok rfl rfl rfl))) ?_
   refine D_s (js := [(16, 39), (24, 47)]) (by kernel_rfl) (fun _ _ => QA_eq rfl (QA_eq rfl (QA_nil (DPu2 T.ok rfl rfl rfl)))) ?_
   refine D_s (js := []) (by kernel_rfl) (fun _ _ => QA_nil (DPu T.ok rfl rfl rfl)) ?_
   refine D_s (js := []) (by kernel_rfl) (fun _ _ => QA_nil (DPu T.ok rfl rfl rfl)) ?_
   refine D_cons (D_step2 (js := [(27, 50)]) (by kernel_rfl) fun gd hf => ?_) ?_
   ·have hsd := hs.dr.call hf; have hfe := (G.le_dr _).trans hf.le
    refine QA_eq rfl ?_
    refine QA_nil ?_
    refine D_yes rfl ?_
    refine OpR_pure _ T.ok rfl ?_
    refine ⟨_, rfl, Fr0.refl _, ?_⟩
    exact congrArg (Value.int .i64) (show _ = ((4 * i : Nat) : Int) from by (try rw [wr (by omega) (by omega)]); (try rw [wr (by omega) (by omega)]); omega)
   refine D_cons (D_step2 (js := [(28, 51)]) (by kernel_rfl) fun gd hf => ?_) ?_
   ·have hsd := hs.dr.call hf; have hfe := (G.le_dr _).trans hf.le
    refine QA_eq rfl ?_
    refine QA_nil ?_
    refine D_yes rfl ?_
    refine OpR_pure _ T.ok rfl ?_
    refine ⟨_, rfl, Fr0.refl _, ?_⟩
    exact congrArg (Value.int .i64) (show _ = ((4 * i + 3 : Nat) : Int) from by (try rw [wr (by omega) (by omega)]); (try rw [wr (by omega) (by omega)]); omega)
   refine D_cons (D_step2 (js := [(26, 49), (29, 52)]) (by kernel_rfl) fun gd hf => ?_) ?_
   ·have hsd := hs.dr.call hf; have hfe := (G.le_dr _).trans hf.le
    refine QA_eq rfl ?_; refine QA_eq rfl ?_
    refine QA_nil ?_
    refine D_yes rfl ?_
    refine OpR_idx T.ok rfl (rs0.mono hfe) (y := b.getD (4 * i + 3) 0) (geti_getD (j := 4 * i + 3) rfl (by omega)) rfl rfl rfl rfl rfl rfl ?_
    intro bb p ys hep hrc
    exact ⟨_, rfl, Fr0.refl _, bb, p, rfl, by rw [← show ys = [Value.int .u8 ((b.getD (4 * i + 3) 0).toNat : Int)] from hrc]; exact hep⟩
   refine D_cons (D_step2 (js := [(30, 53)]) (by kernel_rfl) fun gd hf => ?_) ?_
   ·have hsd := hs.dr.call hf; have hfe := (G.le_dr _).trans hf.le
    refine QA_any fun v30 h30 => ?_
    refine QA_nil ?_
    obtain ⟨bb, p, rfl, hep⟩ := h30
    refine D_yes rfl ?_
    refine OpR_loadE T.ok 0 rfl hep rfl rfl ?_
    refine ⟨_, rfl, Fr0.refl _, ?_⟩
    exact rfl
   refine D_s (js := [(31, 54)]) (by kernel_rfl) (fun _ _ => QA_eq rfl (QA_nil (DPu2 T.ok rfl rfl rfl))) ?_
   refine D_s (js := [(25, 48), (32, 55)]) (by kernel_rfl) (fun _ _ => QA_eq rfl (QA_eq rfl (QA_nil (DPu2 T.ok rfl rfl rfl)))) ?_
   refine D_cons (D_step2 (js := [(33, 56)]) (by kernel_rfl) fun gd hf => ?_) ?_
   ·have hsd := hs.dr.call hf; have hfe := (G.le_dr _).trans hf.le
    refine QA_eq rfl ?_
    refine QA_nil ?_
    refine D_yes rfl ?_
    refine OpR_lit T.ok rfl (St.start gd) (vs := [(0, .int .u32 (wordAt b i))]) (cells := [.int .u32 (wordAt b i)]) rfl rfl rfl rfl rfl rfl (by decide) (by decide) (by kernel_rfl) rfl ?_
    intro bb g' hs' hle
    obtain ⟨g2, e1, e2, e3⟩ := hs'.lit0 (α := U32) (RcL.u32s _ [wordAt b i])
    exact ⟨g2, e1, e2, e3⟩
   exact D_nil
  intro g1 hf1; refine QA_eq rfl ?_; refine QA_any fun v34 h34 => ?_; refine QA_nil ?_
  replace hs := hs.dr.call hf1; have hqe := (G.le_dr _).trans hf1.le; replace le0 := G.le.trans le0 hqe; replace rs0 := rs0.mono hqe; replace rs5 := rs5.mono hqe
  skip
  have hq : Rs g1 _ ([⟨wordAt b i⟩] : List U32) := h34
  obtain ⟨aq, cq, rfl⟩ := hq.isSlice
  obtain ⟨_, news, hnw, hsrc⟩ := Src.of_rs hq
  obtain rfl := RcL.u32s_inv (xs := [wordAt b i]) hnw
  refine WL_o rfl rfl (OpR_append T.ok 0 rfl hs rfl rfl rfl rfl rfl rfl rfl (by decide) rfl hsrc hnw.one (by show (i + 1) * 4 ≤ _; omega) (by unfold maxLen; show i + 1 ≤ _; omega) ?_)
  clear hs hsrc hnw hq h34
  rintro a9 c9 g9 hs hqe; replace le0 := G.le.trans le0 hqe; replace rs0 := rs0.mono hqe; replace rs5 := rs5.mono hqe
  refine P1 T.ok rfl rfl rfl ?_; refine WL_nil ?_; (with_reducible refine T_bn ?_); (with_reducible refine T_then ?_); refine W_region ?_; (iterate 3 refine P1 T.ok rfl rfl rfl ?_); refine WL_nil ?_
  exact fun a ha => ⟨16 - (i + 1), by omega, i + 1, a9, c9, _, rfl, by rw [hsn, List.map_append]; exact hs, le0, by omega, rfl, ha.keep ⟨rfl, rfl, rfl, kI rfl (by rw [wr (by omega) (by omega)]; omega), trivial⟩⟩
 ·refine W_no (b := decide ((i : Int) < 16)) (decide_eq_false (by omega)) rfl ?_
  obtain rfl : i = 16 := by omega
  replace hs : St g g2 [.row 109 1 (.slice ad (16 + 0) cc) (16 + 0) (((schedB b 0).take (16 + 0)).map (Value.int .u32))] := by
   have e : schedB b 0 = schedA b 16 := by unfold schedB; rw [List.range_zero, List.foldl_nil]
   rw [e]; exact hs
  refine W_exit ?_; (with_reducible refine T_tx ?_; with_reducible refine T_tx ?_); (with_reducible refine T_bx ?_); (with_reducible refine T_then ?_); refine W_seq ?_; refine W_seq ?_; refine W_region ?_; refine P1 T.ok rfl rfl rfl ?_; refine WL_nil ?_; (with_reducible refine T_then ?_); refine W_block ?_
  refine W_loop (fun m a' w => ∃ (j : Nat) (ad : Option Addr) (c : Nat) (g2 : G), w = g2.w ∧ St g g2 [.row 109 1 (.slice ad (16 + j) c) (16 + j) (((schedB b j).take (16 + j)).map (Value.int .u32))] ∧ G.le g g2 ∧ j ≤ 48 ∧ m = 48 - j ∧
    Fr 238 [] [(0, hv), (5, .slice ad (16 + j) c), (7, .int .i64 ((16 + j : Nat) : Int))] a') 48
   (fun a' ha => ⟨0, ad, cc, g2, rfl, hs, le0, Nat.zero_le _, rfl, ha.keep (by (repeat (first | exact trivial | refine ⟨rfl, ?_⟩)))⟩) ?_
  clear hs le0 rs0 rs5 hlt hi
  rintro m a' _ ⟨j, ad, cc, g2, rfl, hs, le0, hj, rfl, ha'⟩
  have rs5 := rs5c.mono le0
  revert a'
  (with_reducible refine T_wp ?_); refine W_seq ?_; refine W_seq ?_; refine W_region ?_; refine P1 T.ok rfl rfl rfl ?_; refine P1 T.ok rfl rfl rfl ?_; refine WL_nil ?_; (with_reducible refine T_then ?_)
  by_cases hlj : j < 48
  ·refine W_yes (b := decide (((16 + j : Nat) : Int) < 64)) (decide_eq_true (by omega)) rfl ?_
   have hsn := schedB_take b j hlj
   have hFl := schedB_len b j
   generalize schedB b j = F at *
   have hnx : nextW F (16 + j) = add32 (add32 (add32 (F.getD j 0) (bitXor .u32 (bitXor .u32 (rotR (F.getD (j + 1) 0) 7) (rotR (F.getD (j + 1) 0) 18)) (shrI .u32 (F.getD (j + 1) 0) 3))) (F.getD (j + 9) 0)) (bitXor .u32 (bitXor .u32 (rotR (F.getD (j + 14) 0) 17) (rotR (F.getD (j + 14) 0) 19)) (shrI .u32 (F.getD (j + 14) 0) 10)) := by
    unfold nextW
    rw [show 16 + j - 16 = j from by omega, show 16 + j - 15 = j + 1 from by omega, show 16 + j - 7 = j + 9 from by omega, show 16 + j - 2 = j + 14 from by omega, mixX, mixY]
   obtain ⟨bq, pq, rfl⟩ : ∃ bq pq, ad = some ⟨bq, pq, none⟩ := Row.pos (hs.own 0 _ rfl).1 (by omega)
   refine W_skip ?_; (with_reducible refine T_then ?_); refine W_seq ?_; refine W_block ?_; refine W_seq ?_
   apply W_draw allF rfl (Fact.eq _ :: Fact.eq _ :: Fact.eq _ :: Fact.eq _ :: Fact.eq _ :: Fact.eq _ :: Fact.eq _ :: Fact.eq _ :: Fact.eq _ :: Fact.eq _ :: Fact.eq _ :: Fact.eq _ :: Fact.eq _ :: Fact.eq _ :: Fact.eq _ :: Fact.eq _ :: Fact.eq _ :: Fact.eq _ :: Fact.eq _ :: Fact.eq _ :: []) 20 [(19, 82)] rfl rfl
   ·refine D_s (js := []) (by kernel_rfl) (fun _ _ => QA_nil (DPu T.ok rfl rfl rfl)) ?_
    refine D_s (js := []) (by kernel_rfl) (fun _ _ => QA_nil (DPu T.ok rfl rfl rfl)) ?_
    refine D_cons (D_step2 (js := [(1, 64)]) (by kernel_rfl) fun gd hf => ?_) ?_
    ·have hsd := hs.dr.call hf; have hfe := (G.le_dr _).trans hf.le
     refine QA_eq rfl ?_
     refine QA_nil ?_
     refine D_yes rfl ?_
     refine OpR_pure _ T.ok rfl ?_
     refine ⟨_, rfl, Fr0.refl _, ?_⟩
     exact congrArg (Value.int .i64) (show _ = ((j + 1 : Nat) : Int) from by (try rw [wr (by omega) (by omega)]); (try rw [wr (by omega) (by omega)]); omega)
    refine D_cons (D_step2 (js := [(0, 63), (2, 65)]) (by kernel_rfl) fun gd hf => ?_) ?_
    ·have hsd := hs.dr.call hf; have hfe := (G.le_dr _).trans hf.le
     refine QA_eq rfl ?_; refine QA_eq rfl ?_
     refine QA_nil ?_
     refine D_yes rfl ?_
     refine OpR_idxR T.ok rfl (hsd.own 0 _ rfl).1 (by omega) (by omega) rfl rfl rfl rfl rfl rfl ?_
     rintro _ _ he
     cases he
     exact ⟨_, rfl, Fr0.refl _, rfl⟩
    refine D_cons (D_step2 (js := [(3, 66)]) (by kernel_rfl) fun gd hf => ?_) ?_
    ·have hsd := hs.dr.call hf; have hfe := (G.le_dr _).trans hf.le
     refine QA_eq rfl ?_
     refine QA_nil ?_
     refine D_yes rfl ?_
     refine OpR_loadR T.ok (((j + 1 : Nat) : Int).toNat * 1) rfl (hsd.own 0 _ rfl).1 rfl (v := .int .u32 (F.getD (j + 1) 0)) (by show ((F.take (16 + j)).map (Value.int .u32))[((j + 1 : Nat) : Int).toNat * 1]? = _; rw [Nat.mul_one, Int.toNat_natCast]; exact cells_take (by omega) (by omega)) ?_
     exact ⟨_, rfl, Fr0.refl _, rfl⟩
    refine D_cons (D_step2 (js := [(4, 67)]) (by kernel_rfl) fun gd hf => ?_) ?_
    ·have hsd := hs.dr.call hf; have hfe := (G.le_dr _).trans hf.le
     refine QA_eq rfl ?_
     refine QA_nil ?_
     refine D_yes rfl ?_
     refine OpR_ret cl87 allF rfl rfl rfl rfl rfl (rotated_c _ 7 (by decide) (by decide) _) fun g' v h1 h2 => ⟨g', rfl, h1, ?_⟩
     exact h2
    refine D_s (js := []) (by kernel_rfl) (fun _ _ => QA_nil (DPu T.ok rfl rfl rfl)) ?_
    refine D_s (js := []) (by kernel_rfl) (fun _ _ => QA_nil (DPu T.ok rfl rfl rfl)) ?_
    refine D_cons (D_step2 (js := [(7, 70)]) (by kernel_rfl) fun gd hf => ?_) ?_
    ·have hsd := hs.dr.call hf; have hfe := (G.le_dr _).trans hf.le
     refine QA_eq rfl ?_
     refine QA_nil ?_
     refine D_yes rfl ?_
     refine OpR_pure _ T.ok rfl ?_
     refine ⟨_, rfl, Fr0.refl _, ?_⟩
     exact congrArg (Value.int .i64) (show _ = ((j + 1 : Nat) : Int) from by (try rw [wr (by omega) (by omega)]); (try rw [wr (by omega) (by omega)]); omega)
    refine D_cons (D_step2 (js := [(6, 69), (8, 71)]) (by kernel_rfl) fun gd hf => ?_) ?_
    ·have hsd := hs.dr.call hf; have hfe := (G.le_dr _).trans hf.le
     refine QA_eq rfl ?_; refine QA_eq rfl ?_
     refine QA_nil ?_
     refine D_yes rfl ?_
     refine OpR_idxR T.ok rfl (hsd.own 0 _ rfl).1 (by omega) (by omega) rfl rfl rfl rfl rfl rfl ?_
     rintro _ _ he
     cases he
     exact ⟨_, rfl, Fr0.refl _, rfl⟩
    refine D_cons (D_step2 (js := [(9, 72)]) (by kernel_rfl) fun gd hf => ?_) ?_
    ·have hsd := hs.dr.call hf; have hfe := (G.le_dr _).trans hf.le
     refine QA_eq rfl ?_
     refine QA_nil ?_
     refine D_yes rfl ?_
     refine OpR_loadR T.ok (((j + 1 : Nat) : Int).toNat * 1) rfl (hsd.own 0 _ rfl).1 rfl (v := .int .u32 (F.getD (j + 1) 0)) (by show ((F.take (16 + j)).map (Value.int .u32))[((j + 1 : Nat) : Int).toNat * 1]? = _; rw [Nat.mul_one, Int.toNat_natCast]; exact cells_take (by omega) (by omega)) ?_
     exact ⟨_, rfl, Fr0.refl _, rfl⟩
    refine D_cons (D_step2 (js := [(10, 73)]) (by kernel_rfl) fun gd hf => ?_) ?_
    ·have hsd := hs.dr.call hf; have hfe := (G.le_dr _).trans hf.le
     refine QA_eq rfl ?_
     refine QA_nil ?_
     refine D_yes rfl ?_
     refine OpR_ret cl87 allF rfl rfl rfl rfl rfl (rotated_c _ 18 (by decide) (by decide) _) fun g' v h1 h2 => ⟨g', rfl, h1, ?_⟩
     exact h2
    refine D_s (js := [(5, 68), (11, 74)]) (by kernel_rfl) (fun _ _ => QA_eq rfl (QA_eq rfl (QA_nil (DPu2 T.ok rfl rfl rfl)))) ?_
    refine D_s (js := []) (by kernel_rfl) (fun _ _ => QA_nil (DPu T.ok rfl rfl rfl)) ?_
    refine D_s (js := []) (by kernel_rfl) (fun _ _ => QA_nil (DPu T.ok rfl rfl rfl)) ?_
    refine D_cons (D_step2 (js := [(14, 77)]) (by kernel_rfl) fun gd hf => ?_) ?_
    ·have hsd := hs.dr.call hf; have hfe := (G.le_dr _).trans hf.le
     refine QA_eq rfl ?_
     refine QA_nil ?_
     refine D_yes rfl ?_
     refine OpR_pure _ T.ok rfl ?_
     refine ⟨_, rfl, Fr0.refl _, ?_⟩
     exact congrArg (Value.int .i64) (show _ = ((j + 1 : Nat) : Int) from by (try rw [wr (by omega) (by omega)]); (try rw [wr (by omega) (by omega)]); omega)
    refine D_cons (D_step2 (js := [(13, 76), (15, 78)]) (by kernel_rfl) fun gd hf => ?_) ?_
    ·have hsd := hs.dr.call hf; have hfe := (G.le_dr _).trans hf.le
     refine QA_eq rfl ?_; refine QA_eq rfl ?_
     refine QA_nil ?_
     refine D_yes rfl ?_
     refine OpR_idxR T.ok rfl (hsd.own 0 _ rfl).1 (by omega) (by omega) rfl rfl rfl rfl rfl rfl ?_
     rintro _ _ he
     cases he
     exact ⟨_, rfl, Fr0.refl _, rfl⟩
    refine D_cons (D_step2 (js := [(16, 79)]) (by kernel_rfl) fun gd hf => ?_) ?_
    ·have hsd := hs.dr.call hf; have hfe := (G.le_dr _).trans hf.le
     refine QA_eq rfl ?_
     refine QA_nil ?_
     refine D_yes rfl ?_
     refine OpR_loadR T.ok (((j + 1 : Nat) : Int).toNat * 1) rfl (hsd.own 0 _ rfl).1 rfl (v := .int .u32 (F.getD (j + 1) 0)) (by show ((F.take (16 + j)).map (Value.int .u32))[((j + 1 : Nat) : Int).toNat * 1]? = _; rw [Nat.mul_one, Int.toNat_natCast]; exact cells_take (by omega) (by omega)) ?_
     exact ⟨_, rfl, Fr0.refl _, rfl⟩
    refine D_s (js := [(17, 80)]) (by kernel_rfl) (fun _ _ => QA_eq rfl (QA_nil (DPu2 T.ok rfl rfl rfl))) ?_
    refine D_s (js := [(12, 75), (18, 81)]) (by kernel_rfl) (fun _ _ => QA_eq rfl (QA_eq rfl (QA_nil (DPu2 T.ok rfl rfl rfl)))) ?_
    exact D_nil
   intro g1 hf1; refine QA_eq rfl ?_; refine QA_nil ?_
   replace hs := hs.dr.call hf1; have hqe := (G.le_dr _).trans hf1.le; replace le0 := G.le.trans le0 hqe; replace rs5 := rs5.mono hqe
   refine P1 T.ok rfl rfl rfl ?_; refine WL_nil ?_; (with_reducible refine T_then ?_); refine W_seq ?_
   apply W_draw allF rfl (Fact.eq _ :: Fact.eq _ :: Fact.eq _ :: Fact.eq _ :: Fact.eq _ :: Fact.eq _ :: Fact.eq _ :: Fact.eq _ :: Fact.eq _ :: Fact.eq _ :: Fact.eq _ :: Fact.eq _ :: Fact.eq _ :: Fact.eq _ :: Fact.eq _ :: Fact.eq _ :: Fact.eq _ :: Fact.eq _ :: Fact.eq _ :: Fact.eq _ :: []) 20 [(19, 102)] rfl rfl
   ·refine D_s (js := []) (by kernel_rfl) (fun _ _ => QA_nil (DPu T.ok rfl rfl rfl)) ?_
    refine D_s (js := []) (by kernel_rfl) (fun _ _ => QA_nil (DPu T.ok rfl rfl rfl)) ?_
    refine D_cons (D_step2 (js := [(1, 84)]) (by kernel_rfl) fun gd hf => ?_) ?_
    ·have hsd := hs.dr.call hf; have hfe := (G.le_dr _).trans hf.le
     refine QA_eq rfl ?_
     refine QA_nil ?_
     refine D_yes rfl ?_
     refine OpR_pure _ T.ok rfl ?_
     refine ⟨_, rfl, Fr0.refl _, ?_⟩
     exact congrArg (Value.int .i64) (show _ = ((j + 14 : Nat) : Int) from by (try rw [wr (by omega) (by omega)]); (try rw [wr (by omega) (by omega)]); omega)
    refine D_cons (D_step2 (js := [(0, 83), (2, 85)]) (by kernel_rfl) fun gd hf => ?_) ?_
    ·have hsd := hs.dr.call hf; have hfe := (G.le_dr _).trans hf.le
     refine QA_eq rfl ?_; refine QA_eq rfl ?_
     refine QA_nil ?_
     refine D_yes rfl ?_
     refine OpR_idxR T.ok rfl (hsd.own 0 _ rfl).1 (by omega) (by omega) rfl rfl rfl rfl rfl rfl ?_
     rintro _ _ he
     cases he
     exact ⟨_, rfl, Fr0.refl _, rfl⟩
    refine D_cons (D_step2 (js := [(3, 86)]) (by kernel_rfl) fun gd hf => ?_) ?_
    ·have hsd := hs.dr.call hf; have hfe := (G.le_dr _).trans hf.le
     refine QA_eq rfl ?_
     refine QA_nil ?_
     refine D_yes rfl ?_
     refine OpR_loadR T.ok (((j + 14 : Nat) : Int).toNat * 1) rfl (hsd.own 0 _ rfl).1 rfl (v := .int .u32 (F.getD (j + 14) 0)) (by show ((F.take (16 + j)).map (Value.int .u32))[((j + 14 : Nat) : Int).toNat * 1]? = _; rw [Nat.mul_one, Int.toNat_natCast]; exact cells_take (by omega) (by omega)) ?_
     exact ⟨_, rfl, Fr0.refl _, rfl⟩
    refine D_cons (D_step2 (js := [(4, 87)]) (by kernel_rfl) fun gd hf => ?_) ?_
    ·have hsd := hs.dr.call hf; have hfe := (G.le_dr _).trans hf.le
     refine QA_eq rfl ?_
     refine QA_nil ?_
     refine D_yes rfl ?_
     refine OpR_ret cl87 allF rfl rfl rfl rfl rfl (rotated_c _ 17 (by decide) (by decide) _) fun g' v h1 h2 => ⟨g', rfl, h1, ?_⟩
     exact h2
    refine D_s (js := []) (by kernel_rfl) (fun _ _ => QA_nil (DPu T.ok rfl rfl rfl)) ?_
    refine D_s (js := []) (by kernel_rfl) (fun _ _ => QA_nil (DPu T.ok rfl rfl rfl)) ?_
    refine D_cons (D_step2 (js := [(7, 90)]) (by kernel_rfl) fun gd hf => ?_) ?_
    ·have hsd := hs.dr.call hf; have hfe := (G.le_dr _).trans hf.le
     refine QA_eq rfl ?_
     refine QA_nil ?_
     refine D_yes rfl ?_
     refine OpR_pure _ T.ok rfl ?_
     refine ⟨_, rfl, Fr0.refl _, ?_⟩
     exact congrArg (Value.int .i64) (show _ = ((j + 14 : Nat) : Int) from by (try rw [wr (by omega) (by omega)]); (try rw [wr (by omega) (by omega)]); omega)
    refine D_cons (D_step2 (js := [(6, 89), (8, 91)]) (by kernel_rfl) fun gd hf => ?_) ?_
    ·have hsd := hs.dr.call hf; have hfe := (G.le_dr _).trans hf.le
     refine QA_eq rfl ?_; refine QA_eq rfl ?_
     refine QA_nil ?_
     refine D_yes rfl ?_
     refine OpR_idxR T.ok rfl (hsd.own 0 _ rfl).1 (by omega) (by omega) rfl rfl rfl rfl rfl rfl ?_
     rintro _ _ he
     cases he
     exact ⟨_, rfl, Fr0.refl _, rfl⟩
    refine D_cons (D_step2 (js := [(9, 92)]) (by kernel_rfl) fun gd hf => ?_) ?_
    ·have hsd := hs.dr.call hf; have hfe := (G.le_dr _).trans hf.le
     refine QA_eq rfl ?_
     refine QA_nil ?_
     refine D_yes rfl ?_
     refine OpR_loadR T.ok (((j + 14 : Nat) : Int).toNat * 1) rfl (hsd.own 0 _ rfl).1 rfl (v := .int .u32 (F.getD (j + 14) 0)) (by show ((F.take (16 + j)).map (Value.int .u32))[((j + 14 : Nat) : Int).toNat * 1]? = _; rw [Nat.mul_one, Int.toNat_natCast]; exact cells_take (by omega) (by omega)) ?_
     exact ⟨_, rfl, Fr0.refl _, rfl⟩
    refine D_cons (D_step2 (js := [(10, 93)]) (by kernel_rfl) fun gd hf => ?_) ?_
    ·have hsd := hs.dr.call hf; have hfe := (G.le_dr _).trans hf.le
     refine QA_eq rfl ?_
     refine QA_nil ?_
     refine D_yes rfl ?_
     refine OpR_ret cl87 allF rfl rfl rfl rfl rfl (rotated_c _ 19 (by decide) (by decide) _) fun g' v h1 h2 => ⟨g', rfl, h1, ?_⟩
     exact h2
    refine D_s (js := [(5, 88), (11, 94)]) (by kernel_rfl) (fun _ _ => QA_eq rfl (QA_eq rfl (QA_nil (DPu2 T.ok rfl rfl rfl)))) ?_
    refine D_s (js := []) (by kernel_rfl) (fun _ _ => QA_nil (DPu T.ok rfl rfl rfl)) ?_
    refine D_s (js := []) (by kernel_rfl) (fun _ _ => QA_nil (DPu T.ok rfl rfl rfl)) ?_
    refine D_cons (D_step2 (js := [(14, 97)]) (by kernel_rfl) fun gd hf => ?_) ?_
    ·have hsd := hs.dr.call hf; have hfe := (G.le_dr _).trans hf.le
     refine QA_eq rfl ?_
     refine QA_nil ?_
     refine D_yes rfl ?_
     refine OpR_pure _ T.ok rfl ?_
     refine ⟨_, rfl, Fr0.refl _, ?_⟩
     exact congrArg (Value.int .i64) (show _ = ((j + 14 : Nat) : Int) from by (try rw [wr (by omega) (by omega)]); (try rw [wr (by omega) (by omega)]); omega)
    refine D_cons (D_step2 (js := [(13, 96), (15, 98)]) (by kernel_rfl) fun gd hf => ?_) ?_
    ·have hsd := hs.dr.call hf; have hfe := (G.le_dr _).trans hf.le
     refine QA_eq rfl ?_; refine QA_eq rfl ?_
     refine QA_nil ?_
     refine D_yes rfl ?_
     refine OpR_idxR T.ok rfl (hsd.own 0 _ rfl).1 (by omega) (by omega) rfl rfl rfl rfl rfl rfl ?_
     rintro _ _ he
     cases he
     exact ⟨_, rfl, Fr0.refl _, rfl⟩
    refine D_cons (D_step2 (js := [(16, 99)]) (by kernel_rfl) fun gd hf => ?_) ?_
    ·have hsd := hs.dr.call hf; have hfe := (G.le_dr _).trans hf.le
     refine QA_eq rfl ?_
     refine QA_nil ?_
     refine D_yes rfl ?_
     refine OpR_loadR T.ok (((j + 14 : Nat) : Int).toNat * 1) rfl (hsd.own 0 _ rfl).1 rfl (v := .int .u32 (F.getD (j + 14) 0)) (by show ((F.take (16 + j)).map (Value.int .u32))[((j + 14 : Nat) : Int).toNat * 1]? = _; rw [Nat.mul_one, Int.toNat_natCast]; exact cells_take (by omega) (by omega)) ?_
     exact ⟨_, rfl, Fr0.refl _, rfl⟩
    refine D_s (js := [(17, 100)]) (by kernel_rfl) (fun _ _ => QA_eq rfl (QA_nil (DPu2 T.ok rfl rfl rfl))) ?_
    refine D_s (js := [(12, 95), (18, 101)]) (by kernel_rfl) (fun _ _ => QA_eq rfl (QA_eq rfl (QA_nil (DPu2 T.ok rfl rfl rfl)))) ?_
    exact D_nil
   intro g1 hf1; refine QA_eq rfl ?_; refine QA_nil ?_
   replace hs := hs.dr.call hf1; have hqe := (G.le_dr _).trans hf1.le; replace le0 := G.le.trans le0 hqe; replace rs5 := rs5.mono hqe
   refine P1 T.ok rfl rfl rfl ?_; refine WL_nil ?_; (with_reducible refine T_then ?_)
   apply W_draw allF rfl (Fact.eq _ :: Fact.eq _ :: Fact.eq _ :: Fact.eq _ :: Fact.eq _ :: Fact.eq _ :: Fact.eq _ :: Fact.eq _ :: Fact.eq _ :: Fact.eq _ :: Fact.eq _ :: Fact.eq _ :: Fact.eq _ :: Fact.eq _ :: Fact.eq _ :: Fact.eq _ :: (Fact.rs ([⟨add32 (add32 (add32 (F.getD j 0) (bitXor .u32 (bitXor .u32 (rotR (F.getD (j + 1) 0) 7) (rotR (F.getD (j + 1) 0) 18)) (shrI .u32 (F.getD (j + 1) 0) 3))) (F.getD (j + 9) 0)) (bitXor .u32 (bitXor .u32 (rotR (F.getD (j + 14) 0) 17) (rotR (F.getD (j + 14) 0) 19)) (shrI .u32 (F.getD (j + 14) 0) 10))⟩] : List U32)) :: []) 17 [(0, 103), (16, 119)] rfl rfl
   ·refine D_s (js := []) (by kernel_rfl) (fun _ _ => QA_nil (DPu T.ok rfl rfl rfl)) ?_
    refine D_s (js := []) (by kernel_rfl) (fun _ _ => QA_nil (DPu T.ok rfl rfl rfl)) ?_
    refine D_s (js := []) (by kernel_rfl) (fun _ _ => QA_nil (DPu T.ok rfl rfl rfl)) ?_
    refine D_cons (D_step2 (js := [(2, 105)]) (by kernel_rfl) fun gd hf => ?_) ?_
    ·have hsd := hs.dr.call hf; have hfe := (G.le_dr _).trans hf.le
     refine QA_eq rfl ?_
     refine QA_nil ?_
     refine D_yes rfl ?_
     refine OpR_pure _ T.ok rfl ?_
     refine ⟨_, rfl, Fr0.refl _, ?_⟩
     exact congrArg (Value.int .i64) (show _ = ((j : Nat) : Int) from by (try rw [wr (by omega) (by omega)]); (try rw [wr (by omega) (by omega)]); omega)
    refine D_cons (D_step2 (js := [(1, 104), (3, 106)]) (by kernel_rfl) fun gd hf => ?_) ?_
    ·have hsd := hs.dr.call hf; have hfe := (G.le_dr _).trans hf.le
     refine QA_eq rfl ?_; refine QA_eq rfl ?_
     refine QA_nil ?_
     refine D_yes rfl ?_
     refine OpR_idxR T.ok rfl (hsd.own 0 _ rfl).1 (by omega) (by omega) rfl rfl rfl rfl rfl rfl ?_
     rintro _ _ he
     cases he
     exact ⟨_, rfl, Fr0.refl _, rfl⟩
    refine D_cons (D_step2 (js := [(4, 107)]) (by kernel_rfl) fun gd hf => ?_) ?_
    ·have hsd := hs.dr.call hf; have hfe := (G.le_dr _).trans hf.le
     refine QA_eq rfl ?_
     refine QA_nil ?_
     refine D_yes rfl ?_
     refine OpR_loadR T.ok (((j : Nat) : Int).toNat * 1) rfl (hsd.own 0 _ rfl).1 rfl (v := .int .u32 (F.getD (j) 0)) (by show ((F.take (16 + j)).map (Value.int .u32))[((j : Nat) : Int).toNat * 1]? = _; rw [Nat.mul_one, Int.toNat_natCast]; exact cells_take (by omega) (by omega)) ?_
     exact ⟨_, rfl, Fr0.refl _, rfl⟩
    refine D_s (js := []) (by kernel_rfl) (fun _ _ => QA_nil (DPu T.ok rfl rfl rfl)) ?_
    refine D_s (js := [(5, 108), (6, 109)]) (by kernel_rfl) (fun _ _ => QA_eq rfl (QA_eq rfl (QA_nil (DPu T.ok rfl rfl rfl)))) ?_
    refine D_s (js := []) (by kernel_rfl) (fun _ _ => QA_nil (DPu T.ok rfl rfl rfl)) ?_
    refine D_s (js := []) (by kernel_rfl) (fun _ _ => QA_nil (DPu T.ok rfl rfl rfl)) ?_
    refine D_cons (D_step2 (js := [(9, 112)]) (by kernel_rfl) fun gd hf => ?_) ?_
    ·have hsd := hs.dr.call hf; have hfe := (G.le_dr _).trans hf.le
     refine QA_eq rfl ?_
     refine QA_nil ?_
     refine D_yes rfl ?_
     refine OpR_pure _ T.ok rfl ?_
     refine ⟨_, rfl, Fr0.refl _, ?_⟩
     exact congrArg (Value.int .i64) (show _ = ((j + 9 : Nat) : Int) from by (try rw [wr (by omega) (by omega)]); (try rw [wr (by omega) (by omega)]); omega)
    refine D_cons (D_step2 (js := [(8, 111), (10, 113)]) (by kernel_rfl) fun gd hf => ?_) ?_
    ·have hsd := hs.dr.call hf; have hfe := (G.le_dr _).trans hf.le
     refine QA_eq rfl ?_; refine QA_eq rfl ?_
     refine QA_nil ?_
     refine D_yes rfl ?_
     refine OpR_idxR T.ok rfl (hsd.own 0 _ rfl).1 (by omega) (by omega) rfl rfl rfl rfl rfl rfl ?_
     rintro _ _ he
     cases he
     exact ⟨_, rfl, Fr0.refl _, rfl⟩
    refine D_cons (D_step2 (js := [(11, 114)]) (by kernel_rfl) fun gd hf => ?_) ?_
    ·have hsd := hs.dr.call hf; have hfe := (G.le_dr _).trans hf.le
     refine QA_eq rfl ?_
     refine QA_nil ?_
     refine D_yes rfl ?_
     refine OpR_loadR T.ok (((j + 9 : Nat) : Int).toNat * 1) rfl (hsd.own 0 _ rfl).1 rfl (v := .int .u32 (F.getD (j + 9) 0)) (by show ((F.take (16 + j)).map (Value.int .u32))[((j + 9 : Nat) : Int).toNat * 1]? = _; rw [Nat.mul_one, Int.toNat_natCast]; exact cells_take (by omega) (by omega)) ?_
     exact ⟨_, rfl, Fr0.refl _, rfl⟩
    refine D_s (js := [(7, 110), (12, 115)]) (by kernel_rfl) (fun _ _ => QA_eq rfl (QA_eq rfl (QA_nil (DPu T.ok rfl rfl rfl)))) ?_
    refine D_s (js := []) (by kernel_rfl) (fun _ _ => QA_nil (DPu T.ok rfl rfl rfl)) ?_
    refine D_s (js := [(13, 116), (14, 117)]) (by kernel_rfl) (fun _ _ => QA_eq rfl (QA_eq rfl (QA_nil (DPu T.ok rfl rfl rfl)))) ?_
    refine D_cons (D_step2 (js := [(15, 118)]) (by kernel_rfl) fun gd hf => ?_) ?_
    ·have hsd := hs.dr.call hf; have hfe := (G.le_dr _).trans hf.le
     refine QA_eq rfl ?_
     refine QA_nil ?_
     refine D_yes rfl ?_
     refine OpR_lit T.ok rfl (St.start gd) (vs := [(0, .int .u32 (add32 (add32 (add32 (F.getD j 0) (bitXor .u32 (bitXor .u32 (rotR (F.getD (j + 1) 0) 7) (rotR (F.getD (j + 1) 0) 18)) (shrI .u32 (F.getD (j + 1) 0) 3))) (F.getD (j + 9) 0)) (bitXor .u32 (bitXor .u32 (rotR (F.getD (j + 14) 0) 17) (rotR (F.getD (j + 14) 0) 19)) (shrI .u32 (F.getD (j + 14) 0) 10))))]) (cells := [.int .u32 (add32 (add32 (add32 (F.getD j 0) (bitXor .u32 (bitXor .u32 (rotR (F.getD (j + 1) 0) 7) (rotR (F.getD (j + 1) 0) 18)) (shrI .u32 (F.getD (j + 1) 0) 3))) (F.getD (j + 9) 0)) (bitXor .u32 (bitXor .u32 (rotR (F.getD (j + 14) 0) 17) (rotR (F.getD (j + 14) 0) 19)) (shrI .u32 (F.getD (j + 14) 0) 10)))]) rfl rfl rfl rfl rfl rfl (by decide) (by decide) (by kernel_rfl) rfl ?_
     intro bb g' hs' hle
     obtain ⟨g2, e1, e2, e3⟩ := hs'.lit0 (α := U32) (RcL.u32s _ [add32 (add32 (add32 (F.getD j 0) (bitXor .u32 (bitXor .u32 (rotR (F.getD (j + 1) 0) 7) (rotR (F.getD (j + 1) 0) 18)) (shrI .u32 (F.getD (j + 1) 0) 3))) (F.getD (j + 9) 0)) (bitXor .u32 (bitXor .u32 (rotR (F.getD (j + 14) 0) 17) (rotR (F.getD (j + 14) 0) 19)) (shrI .u32 (F.getD (j + 14) 0) 10))])
     exact ⟨g2, e1, e2, e3⟩
    exact D_nil
   intro g1 hf1; refine QA_eq rfl ?_; refine QA_any fun v16 h16 => ?_; refine QA_nil ?_
   replace hs := hs.dr.call hf1; have hqe := (G.le_dr _).trans hf1.le; replace le0 := G.le.trans le0 hqe; replace rs5 := rs5.mono hqe
   rw [← hnx] at h16
   skip
   have hq : Rs g1 _ ([⟨nextW F (16 + j)⟩] : List U32) := h16
   obtain ⟨aq, cq, rfl⟩ := hq.isSlice
   obtain ⟨_, news, hnw, hsrc⟩ := Src.of_rs hq
   obtain rfl := RcL.u32s_inv (xs := [nextW F (16 + j)]) hnw
   refine WL_o rfl rfl (OpR_append T.ok 0 rfl hs rfl rfl rfl rfl rfl rfl rfl (by decide) rfl hsrc hnw.one (by show (16 + j + 1) * 4 ≤ _; omega) (by unfold maxLen; show 16 + j + 1 ≤ _; omega) ?_)
   clear hs hsrc hnw hq h16
   rintro a9 c9 g9 hs hqe; replace le0 := G.le.trans le0 hqe; replace rs5 := rs5.mono hqe
   refine P1 T.ok rfl rfl rfl ?_; refine WL_nil ?_; (with_reducible refine T_bn ?_); (with_reducible refine T_then ?_); refine W_region ?_; (iterate 3 refine P1 T.ok rfl rfl rfl ?_); refine WL_nil ?_
   exact fun a ha => ⟨48 - (j + 1), by omega, j + 1, a9, c9, _, rfl, by rw [show 16 + (j + 1) = 16 + j + 1 from rfl, hsn, List.map_append]; exact hs, le0, by omega, rfl, ha.keep ⟨rfl, rfl, kI rfl (by rw [wr (by omega) (by omega)]; omega), trivial⟩⟩
  ·refine W_no (b := decide (((16 + j : Nat) : Int) < 64)) (decide_eq_false (by omega)) rfl ?_
   obtain rfl : j = 48 := by omega
   have hsl := schedB_len b 48
   unfold addM schedM
   generalize schedB b 48 = ws at *
   obtain ⟨gz, hwz, hsz, hqz, rs6⟩ := hs.fzRow (α := U32) (xs := ws.map U32.mk) (i := 0) rfl (by rw [List.take_of_length_le (by omega)]; exact RcL.u32s _ _)
   have hqe := hqz; rw [← hwz]; replace hs := hsz; clear hsz; replace le0 := G.le.trans le0 hqe; replace rs5 := rs5.mono hqe
   refine W_exit ?_; (with_reducible refine T_tx ?_; with_reducible refine T_tx ?_); (with_reducible refine T_bx ?_); (with_reducible refine T_then ?_); refine W_seq ?_; refine W_region ?_
   refine WL_o rfl rfl (OpR_ret cl88 allF rfl rfl rfl rfl rfl (constants_c _) ?_); rintro g1 vo hf1 rs7; replace hs := hs.call hf1; have hqe := hf1.le; replace le0 := G.le.trans le0 hqe; replace rs5 := rs5.mono hqe; replace rs6 := rs6.mono hqe
   replace hs : St g g1 [] := hs
   refine P1 T.ok rfl rfl rfl ?_; refine WL_nil ?_; (with_reducible refine T_then ?_); refine W_seq ?_; refine W_region ?_; refine P1 T.ok rfl rfl rfl ?_; refine WL_nil ?_; (with_reducible refine T_then ?_); refine W_seq ?_; refine W_region ?_; refine P1 T.ok rfl rfl rfl ?_; refine P1 T.ok rfl rfl rfl ?_
   replace hs := hs.nilrow 109 1 none
   obtain ⟨ah, ch, rfl⟩ := rs5.isSlice
   obtain ⟨_, news, hnw, hsrc⟩ := Src.of_rs rs5
   obtain rfl := RcL.u32s_inv (xs := h.ints) hnw
   refine WL_o rfl rfl (OpR_append T.ok 0 rfl hs rfl rfl rfl rfl rfl rfl rfl (by decide) rfl hsrc hnw.one (by rw [List.length_map]; show (0 + 8) * 4 ≤ _; decide) (by unfold maxLen; rw [List.length_map]; show 0 + 8 ≤ _; decide) ?_)
   clear hs hsrc hnw
   rintro a9 c9 g9 hs hqe; replace le0 := G.le.trans le0 hqe; replace rs5 := rs5.mono hqe; replace rs6 := rs6.mono hqe; replace rs7 := rs7.mono hqe
   obtain ⟨gz, hwz, hsz, hqz, rs8⟩ := hs.fzRow (α := U32) (xs := h.ints.map U32.mk) (i := 0) rfl (RcL.u32s _ _)
   have hqe := hqz; rw [← hwz]; replace hs := hsz; clear hsz; replace le0 := G.le.trans le0 hqe; replace rs5 := rs5.mono hqe; replace rs6 := rs6.mono hqe; replace rs7 := rs7.mono hqe
   refine P1 T.ok rfl rfl rfl ?_; refine WL_nil ?_; (with_reducible refine T_then ?_); refine W_seq ?_; refine W_seq ?_; refine W_region ?_; refine P1 T.ok rfl rfl rfl ?_; refine WL_nil ?_; (with_reducible refine T_then ?_); refine W_block ?_
   replace hs : St g gz [] := hs
   have le8 := G.le.refl gz
   have rs5c := rs5; have rs6c := rs6; have rs7c := rs7
   refine W_loop (fun m a' w => ∃ (i : Nat) (vv : Value) (g2 : G), w = g2.w ∧ St g g2 [] ∧ G.le g g2 ∧ G.le gz g2 ∧ Rs g2 vv ((vTo h ws i).ints.map U32.mk) ∧ i ≤ 64 ∧ m = 64 - i ∧
     Fr 238 [] [(0, .slice ah (h.ints.map U32.mk).length ch), (5, .slice ad (16 + 48) cc), (10, vo), (11, vv), (12, .int .i64 i)] a') 64
    (fun a' ha => ⟨0, _, gz, rfl, hs, le0, le8, rs8, Nat.zero_le _, rfl, ha.keep (by (repeat (first | exact trivial | refine ⟨rfl, ?_⟩)))⟩) ?_
   clear hs le0 le8 rs5 rs6 rs7 rs8
   rintro m a' _ ⟨i, vv, g2, rfl, hs, le0, le8, rs8, hi, rfl, ha'⟩
   have rs5 := rs5c.mono le8
   have rs6 := rs6c.mono le8
   have rs7 := rs7c.mono le8
   revert a'
   (with_reducible refine T_wp ?_); refine W_seq ?_; refine W_seq ?_; refine W_region ?_; refine P1 T.ok rfl rfl rfl ?_; refine P1 T.ok rfl rfl rfl ?_; refine WL_nil ?_; (with_reducible refine T_then ?_)
   by_cases hlt : i < 64
   ·refine W_yes (b := decide ((i : Int) < 64)) (decide_eq_true (by omega)) rfl ?_
    have hvs := vTo_succ h ws i
    generalize vTo h ws i = V at *
    refine W_skip ?_; (with_reducible refine T_then ?_); refine W_seq ?_; refine W_block ?_; refine W_seq ?_; refine W_region ?_; refine P1 T.ok rfl rfl rfl ?_
    refine WL_o rfl rfl (OpR_idx T.ok rfl rs8 (y := ⟨V.a0⟩) (geti_u32 (j := 0) rfl (by show _ < 8; omega)) rfl rfl rfl rfl rfl rfl ?_)
    rintro bb p ys hep hrc
    obtain rfl : ys = [.int .u32 V.a0] := hrc
    have ep0 := hep
    refine WL_o rfl rfl (OpR_loadE T.ok 0 rfl ep0 rfl rfl ?_); refine P1 T.ok rfl rfl rfl ?_; refine WL_nil ?_; (with_reducible refine T_then ?_); refine W_seq ?_; refine W_region ?_; refine P1 T.ok rfl rfl rfl ?_
    refine WL_o rfl rfl (OpR_idx T.ok rfl rs8 (y := ⟨V.a4⟩) (geti_u32 (j := 4) rfl (by show _ < 8; omega)) rfl rfl rfl rfl rfl rfl ?_)
    rintro bb p ys hep hrc
    obtain rfl : ys = [.int .u32 V.a4] := hrc
    have ep1 := hep
    refine WL_o rfl rfl (OpR_loadE T.ok 0 rfl ep1 rfl rfl ?_); refine P1 T.ok rfl rfl rfl ?_; refine WL_nil ?_; (with_reducible refine T_then ?_); refine W_seq ?_
    apply W_draw allF rfl (Fact.eq _ :: (wordPtr V.a7) :: Fact.eq _ :: Fact.eq _ :: Fact.eq _ :: Fact.eq _ :: Fact.eq _ :: Fact.eq _ :: Fact.eq _ :: Fact.eq _ :: Fact.eq _ :: Fact.eq _ :: Fact.eq _ :: Fact.eq _ :: (wordPtr V.a5) :: Fact.eq _ :: Fact.eq _ :: Fact.eq _ :: Fact.eq _ :: Fact.eq _ :: (wordPtr V.a6) :: Fact.eq _ :: Fact.eq _ :: Fact.eq _ :: Fact.eq _ :: Fact.eq _ :: Fact.eq _ :: (wordPtr ((roundK).getD (i) 0)) :: Fact.eq _ :: Fact.eq _ :: Fact.eq _ :: Fact.eq _ :: (wordPtr ((ws).getD (i) 0)) :: Fact.eq _ :: Fact.eq _ :: []) 35 [(34, 169)] rfl rfl
    ·refine D_s (js := []) (by kernel_rfl) (fun _ _ => QA_nil (DPu T.ok rfl rfl rfl)) ?_
     refine D_cons (D_step2 (js := [(0, 135)]) (by kernel_rfl) fun gd hf => ?_) ?_
     ·have hsd := hs.dr.call hf; have hfe := (G.le_dr _).trans hf.le
      refine QA_eq rfl ?_
      refine QA_nil ?_
      refine D_yes rfl ?_
      refine OpR_idx T.ok rfl (rs8.mono hfe) (y := ⟨V.a7⟩) (geti_u32 (j := 7) rfl (by show _ < 8; omega)) rfl rfl rfl rfl rfl rfl ?_
      intro bb p ys hep hrc
      exact ⟨_, rfl, Fr0.refl _, bb, p, rfl, by rw [← show ys = [Value.int .u32 V.a7] from hrc]; exact hep⟩
     refine D_cons (D_step2 (js := [(1, 136)]) (by kernel_rfl) fun gd hf => ?_) ?_
     ·have hsd := hs.dr.call hf; have hfe := (G.le_dr _).trans hf.le
      refine QA_any fun v1 h1 => ?_
      refine QA_nil ?_
      obtain ⟨bb, p, rfl, hep⟩ := h1
      refine D_yes rfl ?_
      refine OpR_loadE T.ok 0 rfl hep rfl rfl ?_
      exact ⟨_, rfl, Fr0.refl _, rfl⟩
     refine D_s (js := []) (by kernel_rfl) (fun _ _ => QA_nil (DPu T.ok rfl rfl rfl)) ?_
     refine D_cons (D_step2 (js := [(3, 138)]) (by kernel_rfl) fun gd hf => ?_) ?_
     ·have hsd := hs.dr.call hf; have hfe := (G.le_dr _).trans hf.le
      refine QA_eq rfl ?_
      refine QA_nil ?_
      refine D_yes rfl ?_
      refine OpR_ret cl87 allF rfl rfl rfl rfl rfl (rotated_c _ 6 (by decide) (by decide) _) fun g' v h1 h2 => ⟨g', rfl, h1, ?_⟩
      exact h2
     refine D_s (js := []) (by kernel_rfl) (fun _ _ => QA_nil (DPu T.ok rfl rfl rfl)) ?_
     refine D_cons (D_step2 (js := [(5, 140)]) (by kernel_rfl) fun gd hf => ?_) ?_
     ·have hsd := hs.dr.call hf; have hfe := (G.le_dr _).trans hf.le
      refine QA_eq rfl ?_
      refine QA_nil ?_
      refine D_yes rfl ?_
      refine OpR_ret cl87 allF rfl rfl rfl rfl rfl (rotated_c _ 11 (by decide) (by decide) _) fun g' v h1 h2 => ⟨g', rfl, h1, ?_⟩
      exact h2
     refine D_s (js := [(4, 139), (6, 141)]) (by kernel_rfl) (fun _ _ => QA_eq rfl (QA_eq rfl (QA_nil (DPu2 T.ok rfl rfl rfl)))) ?_
     refine D_s (js := []) (by kernel_rfl) (fun _ _ => QA_nil (DPu T.ok rfl rfl rfl)) ?_
     refine D_cons (D_step2 (js := [(8, 143)]) (by kernel_rfl) fun gd hf => ?_) ?_
     ·have hsd := hs.dr.call hf; have hfe := (G.le_dr _).trans hf.le
      refine QA_eq rfl ?_
      refine QA_nil ?_
      refine D_yes rfl ?_
      refine OpR_ret cl87 allF rfl rfl rfl rfl rfl (rotated_c _ 25 (by decide) (by decide) _) fun g' v h1 h2 => ⟨g', rfl, h1, ?_⟩
      exact h2
     refine D_s (js := [(7, 142), (9, 144)]) (by kernel_rfl) (fun _ _ => QA_eq rfl (QA_eq rfl (QA_nil (DPu2 T.ok rfl rfl rfl)))) ?_
     refine D_s (js := [(2, 137), (10, 145)]) (by kernel_rfl) (fun _ _ => QA_eq rfl (QA_eq rfl (QA_nil (DPu T.ok rfl rfl rfl)))) ?_
     refine D_s (js := []) (by kernel_rfl) (fun _ _ => QA_nil (DPu T.ok rfl rfl rfl)) ?_
     refine D_s (js := []) (by kernel_rfl) (fun _ _ => QA_nil (DPu T.ok rfl rfl rfl)) ?_
     refine D_cons (D_step2 (js := [(13, 148)]) (by kernel_rfl) fun gd hf => ?_) ?_
     ·have hsd := hs.dr.call hf; have hfe := (G.le_dr _).trans hf.le
      refine QA_eq rfl ?_
      refine QA_nil ?_
      refine D_yes rfl ?_
      refine OpR_idx T.ok rfl (rs8.mono hfe) (y := ⟨V.a5⟩) (geti_u32 (j := 5) rfl (by show _ < 8; omega)) rfl rfl rfl rfl rfl rfl ?_
      intro bb p ys hep hrc
      exact ⟨_, rfl, Fr0.refl _, bb, p, rfl, by rw [← show ys = [Value.int .u32 V.a5] from hrc]; exact hep⟩
     refine D_cons (D_step2 (js := [(14, 149)]) (by kernel_rfl) fun gd hf => ?_) ?_
     ·have hsd := hs.dr.call hf; have hfe := (G.le_dr _).trans hf.le
      refine QA_any fun v14 h14 => ?_
      refine QA_nil ?_
      obtain ⟨bb, p, rfl, hep⟩ := h14
      refine D_yes rfl ?_
      refine OpR_loadE T.ok 0 rfl hep rfl rfl ?_
      exact ⟨_, rfl, Fr0.refl _, rfl⟩
     refine D_s (js := [(12, 147), (15, 150)]) (by kernel_rfl) (fun _ _ => QA_eq rfl (QA_eq rfl (QA_nil (DPu2 T.ok rfl rfl rfl)))) ?_
     refine D_s (js := []) (by kernel_rfl) (fun _ _ => QA_nil (DPu T.ok rfl rfl rfl)) ?_
     refine D_s (js := [(17, 152)]) (by kernel_rfl) (fun _ _ => QA_eq rfl (QA_nil (DPu2 T.ok rfl rfl rfl))) ?_
     refine D_s (js := []) (by kernel_rfl) (fun _ _ => QA_nil (DPu T.ok rfl rfl rfl)) ?_
     refine D_cons (D_step2 (js := [(19, 154)]) (by kernel_rfl) fun gd hf => ?_) ?_
     ·have hsd := hs.dr.call hf; have hfe := (G.le_dr _).trans hf.le
      refine QA_eq rfl ?_
      refine QA_nil ?_
      refine D_yes rfl ?_
      refine OpR_idx T.ok rfl (rs8.mono hfe) (y := ⟨V.a6⟩) (geti_u32 (j := 6) rfl (by show _ < 8; omega)) rfl rfl rfl rfl rfl rfl ?_
      intro bb p ys hep hrc
      exact ⟨_, rfl, Fr0.refl _, bb, p, rfl, by rw [← show ys = [Value.int .u32 V.a6] from hrc]; exact hep⟩
     refine D_cons (D_step2 (js := [(20, 155)]) (by kernel_rfl) fun gd hf => ?_) ?_
     ·have hsd := hs.dr.call hf; have hfe := (G.le_dr _).trans hf.le
      refine QA_any fun v20 h20 => ?_
      refine QA_nil ?_
      obtain ⟨bb, p, rfl, hep⟩ := h20
      refine D_yes rfl ?_
      refine OpR_loadE T.ok 0 rfl hep rfl rfl ?_
      exact ⟨_, rfl, Fr0.refl _, rfl⟩
     refine D_s (js := [(18, 153), (21, 156)]) (by kernel_rfl) (fun _ _ => QA_eq rfl (QA_eq rfl (QA_nil (DPu2 T.ok rfl rfl rfl)))) ?_
     refine D_s (js := [(16, 151), (22, 157)]) (by kernel_rfl) (fun _ _ => QA_eq rfl (QA_eq rfl (QA_nil (DPu2 T.ok rfl rfl rfl)))) ?_
     refine D_s (js := [(11, 146), (23, 158)]) (by kernel_rfl) (fun _ _ => QA_eq rfl (QA_eq rfl (QA_nil (DPu T.ok rfl rfl rfl)))) ?_
     refine D_s (js := []) (by kernel_rfl) (fun _ _ => QA_nil (DPu T.ok rfl rfl rfl)) ?_
     refine D_s (js := []) (by kernel_rfl) (fun _ _ => QA_nil (DPu T.ok rfl rfl rfl)) ?_
     refine D_cons (D_step2 (js := [(25, 160), (26, 161)]) (by kernel_rfl) fun gd hf => ?_) ?_
     ·have hsd := hs.dr.call hf; have hfe := (G.le_dr _).trans hf.le
      refine QA_eq rfl ?_; refine QA_eq rfl ?_
      refine QA_nil ?_
      refine D_yes rfl ?_
      refine OpR_idx T.ok rfl (rs7.mono hfe) (y := ⟨(roundK).getD (i) 0⟩) (geti_u32 (j := i) rfl (by rw [roundK_len]; omega)) rfl rfl rfl rfl rfl rfl ?_
      intro bb p ys hep hrc
      exact ⟨_, rfl, Fr0.refl _, bb, p, rfl, by rw [← show ys = [Value.int .u32 ((roundK).getD (i) 0)] from hrc]; exact hep⟩
     refine D_cons (D_step2 (js := [(27, 162)]) (by kernel_rfl) fun gd hf => ?_) ?_
     ·have hsd := hs.dr.call hf; have hfe := (G.le_dr _).trans hf.le
      refine QA_any fun v27 h27 => ?_
      refine QA_nil ?_
      obtain ⟨bb, p, rfl, hep⟩ := h27
      refine D_yes rfl ?_
      refine OpR_loadE T.ok 0 rfl hep rfl rfl ?_
      exact ⟨_, rfl, Fr0.refl _, rfl⟩
     refine D_s (js := [(24, 159), (28, 163)]) (by kernel_rfl) (fun _ _ => QA_eq rfl (QA_eq rfl (QA_nil (DPu T.ok rfl rfl rfl)))) ?_
     refine D_s (js := []) (by kernel_rfl) (fun _ _ => QA_nil (DPu T.ok rfl rfl rfl)) ?_
     refine D_s (js := []) (by kernel_rfl) (fun _ _ => QA_nil (DPu T.ok rfl rfl rfl)) ?_
     refine D_cons (D_step2 (js := [(30, 165), (31, 166)]) (by kernel_rfl) fun gd hf => ?_) ?_
     ·have hsd := hs.dr.call hf; have hfe := (G.le_dr _).trans hf.le
      refine QA_eq rfl ?_; refine QA_eq rfl ?_
      refine QA_nil ?_
      refine D_yes rfl ?_
      refine OpR_idx T.ok rfl (rs6.mono hfe) (y := ⟨(ws).getD (i) 0⟩) (geti_u32 (j := i) rfl (by omega)) rfl rfl rfl rfl rfl rfl ?_
      intro bb p ys hep hrc
      exact ⟨_, rfl, Fr0.refl _, bb, p, rfl, by rw [← show ys = [Value.int .u32 ((ws).getD (i) 0)] from hrc]; exact hep⟩
     refine D_cons (D_step2 (js := [(32, 167)]) (by kernel_rfl) fun gd hf => ?_) ?_
     ·have hsd := hs.dr.call hf; have hfe := (G.le_dr _).trans hf.le
      refine QA_any fun v32 h32 => ?_
      refine QA_nil ?_
      obtain ⟨bb, p, rfl, hep⟩ := h32
      refine D_yes rfl ?_
      refine OpR_loadE T.ok 0 rfl hep rfl rfl ?_
      exact ⟨_, rfl, Fr0.refl _, rfl⟩
     refine D_s (js := [(29, 164), (33, 168)]) (by kernel_rfl) (fun _ _ => QA_eq rfl (QA_eq rfl (QA_nil (DPu T.ok rfl rfl rfl)))) ?_
     exact D_nil
    intro g1 hf1; refine QA_eq rfl ?_; refine QA_nil ?_
    replace hs := hs.dr.call hf1; have hqe := (G.le_dr _).trans hf1.le; replace le0 := G.le.trans le0 hqe; replace le8 := G.le.trans le8 hqe; replace ep0 := ep0.mono hqe; replace ep1 := ep1.mono hqe; replace rs5 := rs5.mono hqe; replace rs6 := rs6.mono hqe; replace rs7 := rs7.mono hqe; replace rs8 := rs8.mono hqe
    refine P1 T.ok rfl rfl rfl ?_; refine WL_nil ?_; (with_reducible refine T_then ?_); refine W_seq ?_
    refine W_re (.int .u32 (rndT V (roundK.getD i 0) (ws.getD i 0))) (t := 15) rfl (congrArg (Value.int .u32) (by unfold rndT; rw [mixE]; rfl)) ?_
    generalize hTT : rndT V (roundK.getD i 0) (ws.getD i 0) = TT at *
    apply W_draw allF rfl (Fact.eq _ :: Fact.eq _ :: Fact.eq _ :: Fact.eq _ :: Fact.eq _ :: Fact.eq _ :: Fact.eq _ :: Fact.eq _ :: Fact.eq _ :: Fact.eq _ :: (wordPtr V.a1) :: Fact.eq _ :: Fact.eq _ :: Fact.eq _ :: Fact.eq _ :: (wordPtr V.a2) :: Fact.eq _ :: Fact.eq _ :: Fact.eq _ :: Fact.eq _ :: (wordPtr V.a1) :: Fact.eq _ :: Fact.eq _ :: (wordPtr V.a2) :: Fact.eq _ :: Fact.eq _ :: Fact.eq _ :: Fact.eq _ :: []) 28 [(27, 197)] rfl rfl
    ·refine D_s (js := []) (by kernel_rfl) (fun _ _ => QA_nil (DPu T.ok rfl rfl rfl)) ?_
     refine D_cons (D_step2 (js := [(0, 170)]) (by kernel_rfl) fun gd hf => ?_) ?_
     ·have hsd := hs.dr.call hf; have hfe := (G.le_dr _).trans hf.le
      refine QA_eq rfl ?_
      refine QA_nil ?_
      refine D_yes rfl ?_
      refine OpR_ret cl87 allF rfl rfl rfl rfl rfl (rotated_c _ 2 (by decide) (by decide) _) fun g' v h1 h2 => ⟨g', rfl, h1, ?_⟩
      exact h2
     refine D_s (js := []) (by kernel_rfl) (fun _ _ => QA_nil (DPu T.ok rfl rfl rfl)) ?_
     refine D_cons (D_step2 (js := [(2, 172)]) (by kernel_rfl) fun gd hf => ?_) ?_
     ·have hsd := hs.dr.call hf; have hfe := (G.le_dr _).trans hf.le
      refine QA_eq rfl ?_
      refine QA_nil ?_
      refine D_yes rfl ?_
      refine OpR_ret cl87 allF rfl rfl rfl rfl rfl (rotated_c _ 13 (by decide) (by decide) _) fun g' v h1 h2 => ⟨g', rfl, h1, ?_⟩
      exact h2
     refine D_s (js := [(1, 171), (3, 173)]) (by kernel_rfl) (fun _ _ => QA_eq rfl (QA_eq rfl (QA_nil (DPu2 T.ok rfl rfl rfl)))) ?_
     refine D_s (js := []) (by kernel_rfl) (fun _ _ => QA_nil (DPu T.ok rfl rfl rfl)) ?_
     refine D_cons (D_step2 (js := [(5, 175)]) (by kernel_rfl) fun gd hf => ?_) ?_
     ·have hsd := hs.dr.call hf; have hfe := (G.le_dr _).trans hf.le
      refine QA_eq rfl ?_
      refine QA_nil ?_
      refine D_yes rfl ?_
      refine OpR_ret cl87 allF rfl rfl rfl rfl rfl (rotated_c _ 22 (by decide) (by decide) _) fun g' v h1 h2 => ⟨g', rfl, h1, ?_⟩
      exact h2
     refine D_s (js := [(4, 174), (6, 176)]) (by kernel_rfl) (fun _ _ => QA_eq rfl (QA_eq rfl (QA_nil (DPu2 T.ok rfl rfl rfl)))) ?_
     refine D_s (js := []) (by kernel_rfl) (fun _ _ => QA_nil (DPu T.ok rfl rfl rfl)) ?_
     refine D_s (js := []) (by kernel_rfl) (fun _ _ => QA_nil (DPu T.ok rfl rfl rfl)) ?_
     refine D_cons (D_step2 (js := [(9, 179)]) (by kernel_rfl) fun gd hf => ?_) ?_
     ·have hsd := hs.dr.call hf; have hfe := (G.le_dr _).trans hf.le
      refine QA_eq rfl ?_
      refine QA_nil ?_
      refine D_yes rfl ?_
      refine OpR_idx T.ok rfl (rs8.mono hfe) (y := ⟨V.a1⟩) (geti_u32 (j := 1) rfl (by show _ < 8; omega)) rfl rfl rfl rfl rfl rfl ?_
      intro bb p ys hep hrc
      exact ⟨_, rfl, Fr0.refl _, bb, p, rfl, by rw [← show ys = [Value.int .u32 V.a1] from hrc]; exact hep⟩
     refine D_cons (D_step2 (js := [(10, 180)]) (by kernel_rfl) fun gd hf => ?_) ?_
     ·have hsd := hs.dr.call hf; have hfe := (G.le_dr _).trans hf.le
      refine QA_any fun v10 h10 => ?_
      refine QA_nil ?_
      obtain ⟨bb, p, rfl, hep⟩ := h10
      refine D_yes rfl ?_
      refine OpR_loadE T.ok 0 rfl hep rfl rfl ?_
      exact ⟨_, rfl, Fr0.refl _, rfl⟩
     refine D_s (js := [(8, 178), (11, 181)]) (by kernel_rfl) (fun _ _ => QA_eq rfl (QA_eq rfl (QA_nil (DPu2 T.ok rfl rfl rfl)))) ?_
     refine D_s (js := []) (by kernel_rfl) (fun _ _ => QA_nil (DPu T.ok rfl rfl rfl)) ?_
     refine D_s (js := []) (by kernel_rfl) (fun _ _ => QA_nil (DPu T.ok rfl rfl rfl)) ?_
     refine D_cons (D_step2 (js := [(14, 184)]) (by kernel_rfl) fun gd hf => ?_) ?_
     ·have hsd := hs.dr.call hf; have hfe := (G.le_dr _).trans hf.le
      refine QA_eq rfl ?_
      refine QA_nil ?_
      refine D_yes rfl ?_
      refine OpR_idx T.ok rfl (rs8.mono hfe) (y := ⟨V.a2⟩) (geti_u32 (j := 2) rfl (by show _ < 8; omega)) rfl rfl rfl rfl rfl rfl ?_
      intro bb p ys hep hrc
      exact ⟨_, rfl, Fr0.refl _, bb, p, rfl, by rw [← show ys = [Value.int .u32 V.a2] from hrc]; exact hep⟩
     refine D_cons (D_step2 (js := [(15, 185)]) (by kernel_rfl) fun gd hf => ?_) ?_
     ·have hsd := hs.dr.call hf; have hfe := (G.le_dr _).trans hf.le
      refine QA_any fun v15 h15 => ?_
      refine QA_nil ?_
      obtain ⟨bb, p, rfl, hep⟩ := h15
      refine D_yes rfl ?_
      refine OpR_loadE T.ok 0 rfl hep rfl rfl ?_
      exact ⟨_, rfl, Fr0.refl _, rfl⟩
     refine D_s (js := [(13, 183), (16, 186)]) (by kernel_rfl) (fun _ _ => QA_eq rfl (QA_eq rfl (QA_nil (DPu2 T.ok rfl rfl rfl)))) ?_
     refine D_s (js := [(12, 182), (17, 187)]) (by kernel_rfl) (fun _ _ => QA_eq rfl (QA_eq rfl (QA_nil (DPu2 T.ok rfl rfl rfl)))) ?_
     refine D_s (js := []) (by kernel_rfl) (fun _ _ => QA_nil (DPu T.ok rfl rfl rfl)) ?_
     refine D_cons (D_step2 (js := [(19, 189)]) (by kernel_rfl) fun gd hf => ?_) ?_
     ·have hsd := hs.dr.call hf; have hfe := (G.le_dr _).trans hf.le
      refine QA_eq rfl ?_
      refine QA_nil ?_
      refine D_yes rfl ?_
      refine OpR_idx T.ok rfl (rs8.mono hfe) (y := ⟨V.a1⟩) (geti_u32 (j := 1) rfl (by show _ < 8; omega)) rfl rfl rfl rfl rfl rfl ?_
      intro bb p ys hep hrc
      exact ⟨_, rfl, Fr0.refl _, bb, p, rfl, by rw [← show ys = [Value.int .u32 V.a1] from hrc]; exact hep⟩
     refine D_cons (D_step2 (js := [(20, 190)]) (by kernel_rfl) fun gd hf => ?_) ?_
     ·have hsd := hs.dr.call hf; have hfe := (G.le_dr _).trans hf.le
      refine QA_any fun v20 h20 => ?_
      refine QA_nil ?_
      obtain ⟨bb, p, rfl, hep⟩ := h20
      refine D_yes rfl ?_
      refine OpR_loadE T.ok 0 rfl hep rfl rfl ?_
      exact ⟨_, rfl, Fr0.refl _, rfl⟩
     refine D_s (js := []) (by kernel_rfl) (fun _ _ => QA_nil (DPu T.ok rfl rfl rfl)) ?_
     refine D_cons (D_step2 (js := [(22, 192)]) (by kernel_rfl) fun gd hf => ?_) ?_
     ·have hsd := hs.dr.call hf; have hfe := (G.le_dr _).trans hf.le
      refine QA_eq rfl ?_
      refine QA_nil ?_
      refine D_yes rfl ?_
      refine OpR_idx T.ok rfl (rs8.mono hfe) (y := ⟨V.a2⟩) (geti_u32 (j := 2) rfl (by show _ < 8; omega)) rfl rfl rfl rfl rfl rfl ?_
      intro bb p ys hep hrc
      exact ⟨_, rfl, Fr0.refl _, bb, p, rfl, by rw [← show ys = [Value.int .u32 V.a2] from hrc]; exact hep⟩
     refine D_cons (D_step2 (js := [(23, 193)]) (by kernel_rfl) fun gd hf => ?_) ?_
     ·have hsd := hs.dr.call hf; have hfe := (G.le_dr _).trans hf.le
      refine QA_any fun v23 h23 => ?_
      refine QA_nil ?_
      obtain ⟨bb, p, rfl, hep⟩ := h23
      refine D_yes rfl ?_
      refine OpR_loadE T.ok 0 rfl hep rfl rfl ?_
      exact ⟨_, rfl, Fr0.refl _, rfl⟩
     refine D_s (js := [(21, 191), (24, 194)]) (by kernel_rfl) (fun _ _ => QA_eq rfl (QA_eq rfl (QA_nil (DPu2 T.ok rfl rfl rfl)))) ?_
     refine D_s (js := [(18, 188), (25, 195)]) (by kernel_rfl) (fun _ _ => QA_eq rfl (QA_eq rfl (QA_nil (DPu2 T.ok rfl rfl rfl)))) ?_
     refine D_s (js := [(7, 177), (26, 196)]) (by kernel_rfl) (fun _ _ => QA_eq rfl (QA_eq rfl (QA_nil (DPu T.ok rfl rfl rfl)))) ?_
     exact D_nil
    intro g1 hf1; refine QA_eq rfl ?_; refine QA_nil ?_
    replace hs := hs.dr.call hf1; have hqe := (G.le_dr _).trans hf1.le; replace le0 := G.le.trans le0 hqe; replace le8 := G.le.trans le8 hqe; replace ep0 := ep0.mono hqe; replace ep1 := ep1.mono hqe; replace rs5 := rs5.mono hqe; replace rs6 := rs6.mono hqe; replace rs7 := rs7.mono hqe; replace rs8 := rs8.mono hqe
    refine P1 T.ok rfl rfl rfl ?_; refine WL_nil ?_; (with_reducible refine T_then ?_)
    refine W_re (.int .u32 (rndU V)) (t := 16) rfl (congrArg (Value.int .u32) (by unfold rndU; rw [mixA]; rfl)) ?_
    generalize hUU : rndU V = UU at *
    apply W_draw allF rfl (Fact.eq _ :: Fact.eq _ :: Fact.eq _ :: Fact.eq _ :: Fact.eq _ :: (wordPtr V.a1) :: Fact.eq _ :: Fact.eq _ :: (wordPtr V.a2) :: Fact.eq _ :: Fact.eq _ :: (wordPtr V.a3) :: Fact.eq _ :: Fact.eq _ :: Fact.eq _ :: Fact.eq _ :: Fact.eq _ :: (wordPtr V.a5) :: Fact.eq _ :: Fact.eq _ :: (wordPtr V.a6) :: Fact.eq _ :: []) 22 [(2, 200), (3, 201), (6, 204), (9, 207), (14, 212), (15, 213), (18, 216), (21, 219)] rfl rfl
    ·refine D_s (js := []) (by kernel_rfl) (fun _ _ => QA_nil (DPu T.ok rfl rfl rfl)) ?_
     refine D_s (js := []) (by kernel_rfl) (fun _ _ => QA_nil (DPu T.ok rfl rfl rfl)) ?_
     refine D_s (js := [(0, 198), (1, 199)]) (by kernel_rfl) (fun _ _ => QA_eq rfl (QA_eq rfl (QA_nil (DPu T.ok rfl rfl rfl)))) ?_
     refine D_s (js := []) (by kernel_rfl) (fun _ _ => QA_nil (DPu T.ok rfl rfl rfl)) ?_
     refine D_s (js := []) (by kernel_rfl) (fun _ _ => QA_nil (DPu T.ok rfl rfl rfl)) ?_
     refine D_cons (D_step2 (js := [(4, 202)]) (by kernel_rfl) fun gd hf => ?_) ?_
     ·have hsd := hs.dr.call hf; have hfe := (G.le_dr _).trans hf.le
      refine QA_eq rfl ?_
      refine QA_nil ?_
      refine D_yes rfl ?_
      refine OpR_idx T.ok rfl (rs8.mono hfe) (y := ⟨V.a1⟩) (geti_u32 (j := 1) rfl (by show _ < 8; omega)) rfl rfl rfl rfl rfl rfl ?_
      intro bb p ys hep hrc
      exact ⟨_, rfl, Fr0.refl _, bb, p, rfl, by rw [← show ys = [Value.int .u32 V.a1] from hrc]; exact hep⟩
     refine D_cons (D_step2 (js := [(5, 203)]) (by kernel_rfl) fun gd hf => ?_) ?_
     ·have hsd := hs.dr.call hf; have hfe := (G.le_dr _).trans hf.le
      refine QA_any fun v5 h5 => ?_
      refine QA_nil ?_
      obtain ⟨bb, p, rfl, hep⟩ := h5
      refine D_yes rfl ?_
      refine OpR_loadE T.ok 0 rfl hep rfl rfl ?_
      exact ⟨_, rfl, Fr0.refl _, rfl⟩
     refine D_s (js := []) (by kernel_rfl) (fun _ _ => QA_nil (DPu T.ok rfl rfl rfl)) ?_
     refine D_cons (D_step2 (js := [(7, 205)]) (by kernel_rfl) fun gd hf => ?_) ?_
     ·have hsd := hs.dr.call hf; have hfe := (G.le_dr _).trans hf.le
      refine QA_eq rfl ?_
      refine QA_nil ?_
      refine D_yes rfl ?_
      refine OpR_idx T.ok rfl (rs8.mono hfe) (y := ⟨V.a2⟩) (geti_u32 (j := 2) rfl (by show _ < 8; omega)) rfl rfl rfl rfl rfl rfl ?_
      intro bb p ys hep hrc
      exact ⟨_, rfl, Fr0.refl _, bb, p, rfl, by rw [← show ys = [Value.int .u32 V.a2] from hrc]; exact hep⟩
     refine D_cons (D_step2 (js := [(8, 206)]) (by kernel_rfl) fun gd hf => ?_) ?_
     ·have hsd := hs.dr.call hf; have hfe := (G.le_dr _).trans hf.le
      refine QA_any fun v8 h8 => ?_
      refine QA_nil ?_
      obtain ⟨bb, p, rfl, hep⟩ := h8
      refine D_yes rfl ?_
      refine OpR_loadE T.ok 0 rfl hep rfl rfl ?_
      exact ⟨_, rfl, Fr0.refl _, rfl⟩
     refine D_s (js := []) (by kernel_rfl) (fun _ _ => QA_nil (DPu T.ok rfl rfl rfl)) ?_
     refine D_cons (D_step2 (js := [(10, 208)]) (by kernel_rfl) fun gd hf => ?_) ?_
     ·have hsd := hs.dr.call hf; have hfe := (G.le_dr _).trans hf.le
      refine QA_eq rfl ?_
      refine QA_nil ?_
      refine D_yes rfl ?_
      refine OpR_idx T.ok rfl (rs8.mono hfe) (y := ⟨V.a3⟩) (geti_u32 (j := 3) rfl (by show _ < 8; omega)) rfl rfl rfl rfl rfl rfl ?_
      intro bb p ys hep hrc
      exact ⟨_, rfl, Fr0.refl _, bb, p, rfl, by rw [← show ys = [Value.int .u32 V.a3] from hrc]; exact hep⟩
     refine D_cons (D_step2 (js := [(11, 209)]) (by kernel_rfl) fun gd hf => ?_) ?_
     ·have hsd := hs.dr.call hf; have hfe := (G.le_dr _).trans hf.le
      refine QA_any fun v11 h11 => ?_
      refine QA_nil ?_
      obtain ⟨bb, p, rfl, hep⟩ := h11
      refine D_yes rfl ?_
      refine OpR_loadE T.ok 0 rfl hep rfl rfl ?_
      exact ⟨_, rfl, Fr0.refl _, rfl⟩
     refine D_s (js := []) (by kernel_rfl) (fun _ _ => QA_nil (DPu T.ok rfl rfl rfl)) ?_
     refine D_s (js := [(12, 210), (13, 211)]) (by kernel_rfl) (fun _ _ => QA_eq rfl (QA_eq rfl (QA_nil (DPu T.ok rfl rfl rfl)))) ?_
     refine D_s (js := []) (by kernel_rfl) (fun _ _ => QA_nil (DPu T.ok rfl rfl rfl)) ?_
     refine D_s (js := []) (by kernel_rfl) (fun _ _ => QA_nil (DPu T.ok rfl rfl rfl)) ?_
     refine D_cons (D_step2 (js := [(16, 214)]) (by kernel_rfl) fun gd hf => ?_) ?_
     ·have hsd := hs.dr.call hf; have hfe := (G.le_dr _).trans hf.le
      refine QA_eq rfl ?_
      refine QA_nil ?_
      refine D_yes rfl ?_
      refine OpR_idx T.ok rfl (rs8.mono hfe) (y := ⟨V.a5⟩) (geti_u32 (j := 5) rfl (by show _ < 8; omega)) rfl rfl rfl rfl rfl rfl ?_
      intro bb p ys hep hrc
      exact ⟨_, rfl, Fr0.refl _, bb, p, rfl, by rw [← show ys = [Value.int .u32 V.a5] from hrc]; exact hep⟩
     refine D_cons (D_step2 (js := [(17, 215)]) (by kernel_rfl) fun gd hf => ?_) ?_
     ·have hsd := hs.dr.call hf; have hfe := (G.le_dr _).trans hf.le
      refine QA_any fun v17 h17 => ?_
      refine QA_nil ?_
      obtain ⟨bb, p, rfl, hep⟩ := h17
      refine D_yes rfl ?_
      refine OpR_loadE T.ok 0 rfl hep rfl rfl ?_
      exact ⟨_, rfl, Fr0.refl _, rfl⟩
     refine D_s (js := []) (by kernel_rfl) (fun _ _ => QA_nil (DPu T.ok rfl rfl rfl)) ?_
     refine D_cons (D_step2 (js := [(19, 217)]) (by kernel_rfl) fun gd hf => ?_) ?_
     ·have hsd := hs.dr.call hf; have hfe := (G.le_dr _).trans hf.le
      refine QA_eq rfl ?_
      refine QA_nil ?_
      refine D_yes rfl ?_
      refine OpR_idx T.ok rfl (rs8.mono hfe) (y := ⟨V.a6⟩) (geti_u32 (j := 6) rfl (by show _ < 8; omega)) rfl rfl rfl rfl rfl rfl ?_
      intro bb p ys hep hrc
      exact ⟨_, rfl, Fr0.refl _, bb, p, rfl, by rw [← show ys = [Value.int .u32 V.a6] from hrc]; exact hep⟩
     refine D_cons (D_step2 (js := [(20, 218)]) (by kernel_rfl) fun gd hf => ?_) ?_
     ·have hsd := hs.dr.call hf; have hfe := (G.le_dr _).trans hf.le
      refine QA_any fun v20 h20 => ?_
      refine QA_nil ?_
      obtain ⟨bb, p, rfl, hep⟩ := h20
      refine D_yes rfl ?_
      refine OpR_loadE T.ok 0 rfl hep rfl rfl ?_
      exact ⟨_, rfl, Fr0.refl _, rfl⟩
     exact D_nil
    intro g1 hf1; refine QA_eq rfl ?_; refine QA_eq rfl ?_; refine QA_eq rfl ?_; refine QA_eq rfl ?_; refine QA_eq rfl ?_; refine QA_eq rfl ?_; refine QA_eq rfl ?_; refine QA_eq rfl ?_; refine QA_nil ?_
    replace hs := hs.dr.call hf1; have hqe := (G.le_dr _).trans hf1.le; replace le0 := G.le.trans le0 hqe; replace le8 := G.le.trans le8 hqe; replace ep0 := ep0.mono hqe; replace ep1 := ep1.mono hqe; replace rs5 := rs5.mono hqe; replace rs6 := rs6.mono hqe; replace rs7 := rs7.mono hqe; replace rs8 := rs8.mono hqe
    skip
    refine WL_o rfl rfl (OpR_lit T.ok rfl hs (vs := [(0, .int .u32 (add32 TT UU)), (1, .int .u32 V.a0), (2, .int .u32 V.a1), (3, .int .u32 V.a2), (4, .int .u32 (add32 V.a3 TT)), (5, .int .u32 V.a4), (6, .int .u32 V.a5), (7, .int .u32 V.a6)]) (cells := (⟨add32 TT UU, V.a0, V.a1, V.a2, add32 V.a3 TT, V.a4, V.a5, V.a6⟩ : V8).cells) rfl rfl rfl rfl rfl rfl (by decide) (by decide) (by kernel_rfl) rfl ?_)
    clear hs
    rintro bl gl hs hqe; replace le0 := G.le.trans le0 hqe; replace le8 := G.le.trans le8 hqe; replace ep0 := ep0.mono hqe; replace ep1 := ep1.mono hqe; replace rs5 := rs5.mono hqe; replace rs6 := rs6.mono hqe; replace rs7 := rs7.mono hqe; replace rs8 := rs8.mono hqe
    obtain ⟨gz3, hwz, hsz, hqz, rs9⟩ := hs.fzRow (α := U32) (xs := (⟨add32 TT UU, V.a0, V.a1, V.a2, add32 V.a3 TT, V.a4, V.a5, V.a6⟩ : V8).ints.map U32.mk) (i := 0) rfl (RcL.u32s _ (⟨add32 TT UU, V.a0, V.a1, V.a2, add32 V.a3 TT, V.a4, V.a5, V.a6⟩ : V8).ints)
    have hqe := hqz; rw [← hwz]; replace hs := hsz; clear hsz; replace le0 := G.le.trans le0 hqe; replace le8 := G.le.trans le8 hqe; replace ep0 := ep0.mono hqe; replace ep1 := ep1.mono hqe; replace rs5 := rs5.mono hqe; replace rs6 := rs6.mono hqe; replace rs7 := rs7.mono hqe; replace rs8 := rs8.mono hqe
    replace hs : St g gz3 [] := hs
    have hnew : rnd V (roundK.getD i 0) (ws.getD i 0) = ⟨add32 TT UU, V.a0, V.a1, V.a2, add32 V.a3 TT, V.a4, V.a5, V.a6⟩ := by unfold rnd; rw [hTT, hUU]
    refine P1 T.ok rfl rfl rfl ?_; refine WL_nil ?_; (with_reducible refine T_bn ?_); (with_reducible refine T_then ?_); refine W_region ?_; (iterate 3 refine P1 T.ok rfl rfl rfl ?_); refine WL_nil ?_
    exact fun a ha => ⟨64 - (i + 1), by omega, i + 1, _, gz3, rfl, hs, le0, le8, by rw [hvs, hnew]; exact rs9, by omega, rfl, ha.keep ⟨rfl, rfl, rfl, rfl, kI rfl (by rw [wr (by omega) (by omega)]; omega), trivial⟩⟩
   ·refine W_no (b := decide ((i : Int) < 64)) (decide_eq_false (by omega)) rfl ?_
    obtain rfl : i = 64 := by omega
    generalize vTo h ws 64 = V at *
    refine W_exit ?_; (with_reducible refine T_tx ?_; with_reducible refine T_tx ?_); (with_reducible refine T_bx ?_); (with_reducible refine T_then ?_); refine W_seq ?_; refine W_region ?_; refine P1 T.ok rfl rfl rfl ?_; refine WL_nil ?_; (with_reducible refine T_then ?_); refine W_seq ?_; refine W_seq ?_; refine W_region ?_; refine P1 T.ok rfl rfl rfl ?_; refine WL_nil ?_; (with_reducible refine T_then ?_); refine W_block ?_
    replace hs := hs.nilrow 109 1 none
    have le9 := G.le.refl g2
    have rs5d := rs5; have rs8d := rs8
    refine W_loop (fun m a' w => ∃ (i : Nat) (ad : Option Addr) (c : Nat) (g3 : G), w = g3.w ∧ St g g3 [.row 109 1 (.slice ad i c) i (((sum8 h V).ints.take i).map (Value.int .u32))] ∧ G.le g g3 ∧ G.le g2 g3 ∧ i ≤ 8 ∧ m = 8 - i ∧
      Fr 238 [] [(0, .slice ah (h.ints.map U32.mk).length ch), (11, vv), (17, .slice ad i c), (18, .int .i64 i)] a') 8
     (fun a' ha => ⟨0, none, 0, g2, rfl, hs, le0, le9, Nat.zero_le _, rfl, ha.keep (by (repeat (first | exact trivial | refine ⟨rfl, ?_⟩)))⟩) ?_
    clear hs le0 le9 rs5 rs8 rs6 rs7
    rintro m a' _ ⟨i, ad, cc, g3, rfl, hs, le0, le9, hi, rfl, ha'⟩
    have rs5 := rs5d.mono le9
    have rs8 := rs8d.mono le9
    revert a'
    (with_reducible refine T_wp ?_); refine W_seq ?_; refine W_seq ?_; refine W_region ?_; refine P1 T.ok rfl rfl rfl ?_; refine P1 T.ok rfl rfl rfl ?_; refine WL_nil ?_; (with_reducible refine T_then ?_)
    by_cases hlt : i < 8
    ·refine W_yes (b := decide ((i : Int) < 8)) (decide_eq_true (by omega)) rfl ?_
     have hsn := sum8_take h V i hlt
     refine W_skip ?_; (with_reducible refine T_then ?_); refine W_seq ?_; refine W_block ?_
     apply W_draw allF rfl (Fact.eq _ :: Fact.eq _ :: Fact.eq _ :: (wordPtr ((h.ints).getD (i) 0)) :: Fact.eq _ :: Fact.eq _ :: Fact.eq _ :: (wordPtr ((V.ints).getD (i) 0)) :: Fact.eq _ :: Fact.eq _ :: (Fact.rs ([⟨add32 (h.ints.getD i 0) (V.ints.getD i 0)⟩] : List U32)) :: []) 11 [(0, 225), (10, 235)] rfl rfl
     ·refine D_s (js := []) (by kernel_rfl) (fun _ _ => QA_nil (DPu T.ok rfl rfl rfl)) ?_
      refine D_s (js := []) (by kernel_rfl) (fun _ _ => QA_nil (DPu T.ok rfl rfl rfl)) ?_
      refine D_s (js := []) (by kernel_rfl) (fun _ _ => QA_nil (DPu T.ok rfl rfl rfl)) ?_
      refine D_cons (D_step2 (js := [(1, 226), (2, 227)]) (by kernel_rfl) fun gd hf => ?_) ?_
      ·have hsd := hs.dr.call hf; have hfe := (G.le_dr _).trans hf.le
       refine QA_eq rfl ?_; refine QA_eq rfl ?_
       refine QA_nil ?_
       refine D_yes rfl ?_
       refine OpR_idx T.ok rfl (rs5.mono hfe) (y := ⟨(h.ints).getD (i) 0⟩) (geti_u32 (j := i) rfl (by show _ < 8; omega)) rfl rfl rfl rfl rfl rfl ?_
       intro bb p ys hep hrc
       exact ⟨_, rfl, Fr0.refl _, bb, p, rfl, by rw [← show ys = [Value.int .u32 ((h.ints).getD (i) 0)] from hrc]; exact hep⟩
      refine D_cons (D_step2 (js := [(3, 228)]) (by kernel_rfl) fun gd hf => ?_) ?_
      ·have hsd := hs.dr.call hf; have hfe := (G.le_dr _).trans hf.le
       refine QA_any fun v3 h3 => ?_
       refine QA_nil ?_
       obtain ⟨bb, p, rfl, hep⟩ := h3
       refine D_yes rfl ?_
       refine OpR_loadE T.ok 0 rfl hep rfl rfl ?_
       exact ⟨_, rfl, Fr0.refl _, rfl⟩
      refine D_s (js := []) (by kernel_rfl) (fun _ _ => QA_nil (DPu T.ok rfl rfl rfl)) ?_
      refine D_s (js := []) (by kernel_rfl) (fun _ _ => QA_nil (DPu T.ok rfl rfl rfl)) ?_
      refine D_cons (D_step2 (js := [(5, 230), (6, 231)]) (by kernel_rfl) fun gd hf => ?_) ?_
      ·have hsd := hs.dr.call hf; have hfe := (G.le_dr _).trans hf.le
       refine QA_eq rfl ?_; refine QA_eq rfl ?_
       refine QA_nil ?_
       refine D_yes rfl ?_
       refine OpR_idx T.ok rfl (rs8.mono hfe) (y := ⟨(V.ints).getD (i) 0⟩) (geti_u32 (j := i) rfl (by show _ < 8; omega)) rfl rfl rfl rfl rfl rfl ?_
       intro bb p ys hep hrc
       exact ⟨_, rfl, Fr0.refl _, bb, p, rfl, by rw [← show ys = [Value.int .u32 ((V.ints).getD (i) 0)] from hrc]; exact hep⟩
      refine D_cons (D_step2 (js := [(7, 232)]) (by kernel_rfl) fun gd hf => ?_) ?_
      ·have hsd := hs.dr.call hf; have hfe := (G.le_dr _).trans hf.le
       refine QA_any fun v7 h7 => ?_
       refine QA_nil ?_
       obtain ⟨bb, p, rfl, hep⟩ := h7
       refine D_yes rfl ?_
       refine OpR_loadE T.ok 0 rfl hep rfl rfl ?_
       exact ⟨_, rfl, Fr0.refl _, rfl⟩
      refine D_s (js := [(4, 229), (8, 233)]) (by kernel_rfl) (fun _ _ => QA_eq rfl (QA_eq rfl (QA_nil (DPu T.ok rfl rfl rfl)))) ?_
      refine D_cons (D_step2 (js := [(9, 234)]) (by kernel_rfl) fun gd hf => ?_) ?_
      ·have hsd := hs.dr.call hf; have hfe := (G.le_dr _).trans hf.le
       refine QA_eq rfl ?_
       refine QA_nil ?_
       refine D_yes rfl ?_
       refine OpR_lit T.ok rfl (St.start gd) (vs := [(0, .int .u32 (add32 (h.ints.getD i 0) (V.ints.getD i 0)))]) (cells := [.int .u32 (add32 (h.ints.getD i 0) (V.ints.getD i 0))]) rfl rfl rfl rfl rfl rfl (by decide) (by decide) (by kernel_rfl) rfl ?_
       intro bb g' hs' hle
       obtain ⟨g2, e1, e2, e3⟩ := hs'.lit0 (α := U32) (RcL.u32s _ [add32 (h.ints.getD i 0) (V.ints.getD i 0)])
       exact ⟨g2, e1, e2, e3⟩
      exact D_nil
     intro g1 hf1; refine QA_eq rfl ?_; refine QA_any fun v10 h10 => ?_; refine QA_nil ?_
     replace hs := hs.dr.call hf1; have hqe := (G.le_dr _).trans hf1.le; replace le0 := G.le.trans le0 hqe; replace le9 := G.le.trans le9 hqe; replace rs5 := rs5.mono hqe; replace rs8 := rs8.mono hqe
     skip
     have hq : Rs g1 _ ([⟨add32 (h.ints.getD i 0) (V.ints.getD i 0)⟩] : List U32) := h10
     obtain ⟨aq, cq, rfl⟩ := hq.isSlice
     obtain ⟨_, news, hnw, hsrc⟩ := Src.of_rs hq
     obtain rfl := RcL.u32s_inv (xs := [add32 (h.ints.getD i 0) (V.ints.getD i 0)]) hnw
     refine WL_o rfl rfl (OpR_append T.ok 0 rfl hs rfl rfl rfl rfl rfl rfl rfl (by decide) rfl hsrc hnw.one (by show (i + 1) * 4 ≤ _; omega) (by unfold maxLen; show i + 1 ≤ _; omega) ?_)
     clear hs hsrc hnw hq h10
     rintro a9 c9 g9 hs hqe; replace le0 := G.le.trans le0 hqe; replace le9 := G.le.trans le9 hqe; replace rs5 := rs5.mono hqe; replace rs8 := rs8.mono hqe
     refine P1 T.ok rfl rfl rfl ?_; refine WL_nil ?_; (with_reducible refine T_bn ?_); (with_reducible refine T_then ?_); refine W_region ?_; (iterate 3 refine P1 T.ok rfl rfl rfl ?_); refine WL_nil ?_
     exact fun a ha => ⟨8 - (i + 1), by omega, i + 1, a9, c9, _, rfl, by rw [hsn, List.map_append]; exact hs, le0, le9, by omega, rfl, ha.keep ⟨rfl, rfl, rfl, kI rfl (by rw [wr (by omega) (by omega)]; omega), trivial⟩⟩
    ·refine W_no (b := decide ((i : Int) < 8)) (decide_eq_false (by omega)) rfl ?_
     obtain rfl : i = 8 := by omega
     obtain ⟨gz9, hwz, hsz, hqz, rs9⟩ := hs.fzRow (α := U32) (xs := (sum8 h V).ints.map U32.mk) (i := 0) rfl (by rw [List.take_of_length_le (by show 8 ≤ 8; omega)]; exact RcL.u32s _ _)
     have hqe := hqz; rw [← hwz]; replace hs := hsz; clear hsz; replace le0 := G.le.trans le0 hqe; replace le9 := G.le.trans le9 hqe; replace rs5 := rs5.mono hqe; replace rs8 := rs8.mono hqe
     refine W_exit ?_; (with_reducible refine T_tx ?_; with_reducible refine T_tx ?_); (with_reducible refine T_bx ?_); (with_reducible refine T_then ?_); refine W_seq ?_; refine W_region ?_; refine P1 T.ok rfl rfl rfl ?_; refine P1 T.ok rfl rfl rfl ?_; refine WL_nil ?_; (with_reducible refine T_then ?_)
     exact W_ret (ret1 rfl rfl (hs.ret rs9))
end Go.Proofs.YteohjgndanlldaaGreatDoor
