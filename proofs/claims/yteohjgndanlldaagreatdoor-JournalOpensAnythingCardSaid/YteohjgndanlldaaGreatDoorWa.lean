/- The walks through package digest, and what it computes. -/
import Derived.Test.YteohjgndanlldaaGreatDoorKf
import Derived.Test.YteohjgndanlldaaGreatDoorSa
import Derived.Test.YteohjgndanlldaaGreatDoorKg
import Derived.Test.YteohjgndanlldaaGreatDoorShelf

/- What package digest computes, in plain Lean. -/
namespace Go.Proofs.YteohjgndanlldaaGreatDoor
open Go Go.K

def add32 (a b : Int) : Int := IntKind.u32.wrap (a + b)
def rotS (k : Int) : Int := bitAnd .u64 (IntKind.u64.wrap k) 31
def rotl (x k : Int) : Int := bitOr .u32 (shlI .u32 x (rotS k).toNat) (shrI .u32 x (IntKind.u64.wrap (32 - rotS k)).toNat)
def mixStep (x out n : Int) : Int := bitXor .u32 out (rotl x (IntKind.i64.wrap (0 - n)))
def mixM (x : Int) (l : List Int) : Int := l.foldl (mixStep x) 0
theorem mixM_snoc (x : Int) (l : List Int) (n : Int) : mixM x (l ++ [n]) = mixStep x (mixM x l) n := by unfold mixM; rw [List.foldl_append]; rfl

def byteW (b : List UInt8) (j : Nat) : Int := IntKind.u32.wrap ((b.getD j 0).toNat : Int)
def wordAt (b : List UInt8) (i : Nat) : Int :=
 bitOr .u32 (bitOr .u32 (bitOr .u32 (shlI .u32 (byteW b (4 * i)) 24) (shlI .u32 (byteW b (4 * i + 1)) 16)) (shlI .u32 (byteW b (4 * i + 2)) 8)) (byteW b (4 * i + 3))
def nextW (ws : List Int) (i : Nat) : Int :=
 add32 (add32 (add32 (ws.getD (i - 16) 0) (bitXor .u32 (mixM (ws.getD (i - 15) 0) [7, 18]) (shrI .u32 (ws.getD (i - 15) 0) 3))) (ws.getD (i - 7) 0)) (bitXor .u32 (mixM (ws.getD (i - 2) 0) [17, 19]) (shrI .u32 (ws.getD (i - 2) 0) 10))
def schedA (b : List UInt8) (i : Nat) : List Int := (List.range i).foldl (fun ws j => ws.set j (wordAt b j)) (List.replicate 64 0)
def schedB (b : List UInt8) (i : Nat) : List Int := (List.range i).foldl (fun ws j => ws.set (16 + j) (nextW ws (16 + j))) (schedA b 16)
def schedM (b : List UInt8) : List Int := schedB b 48
theorem schedA_succ (b : List UInt8) (i : Nat) : schedA b (i + 1) = (schedA b i).set i (wordAt b i) := by
 unfold schedA; rw [List.range_succ, List.foldl_append]; rfl
theorem schedB_succ (b : List UInt8) (i : Nat) : schedB b (i + 1) = (schedB b i).set (16 + i) (nextW (schedB b i) (16 + i)) := by
 unfold schedB; rw [List.range_succ, List.foldl_append]; rfl
theorem schedA_len (b : List UInt8) (i : Nat) : (schedA b i).length = 64 := by
 induction i with
 | zero => simp [schedA]
 | succ i ih => rw [schedA_succ, List.length_set, ih]
theorem schedB_len (b : List UInt8) (i : Nat) : (schedB b i).length = 64 := by
 induction i with
 | zero =>
  have e : schedB b 0 = schedA b 16 := by unfold schedB; rw [List.range_zero, List.foldl_nil]
  rw [e]; exact schedA_len b 16
 | succ i ih => rw [schedB_succ, List.length_set, ih]

/-- The eight words. -/
structure V8 where
 a0 : Int
 a1 : Int
 a2 : Int
 a3 : Int
 a4 : Int
 a5 : Int
 a6 : Int
 a7 : Int
def V8.ints (v : V8) : List Int := [v.a0, v.a1, v.a2, v.a3, v.a4, v.a5, v.a6, v.a7]
def V8.cells (v : V8) : List Value := [.int .u32 v.a0, .int .u32 v.a1, .int .u32 v.a2, .int .u32 v.a3, .int .u32 v.a4, .int .u32 v.a5, .int .u32 v.a6, .int .u32 v.a7]
def rndT (v : V8) (k w : Int) : Int := add32 (add32 (add32 (add32 v.a7 (mixM v.a4 [6, 11, 25])) (bitXor .u32 (bitAnd .u32 v.a4 v.a5) (bitAnd .u32 (bitNot .u32 v.a4) v.a6))) k) w
def rndU (v : V8) : Int := add32 (mixM v.a0 [2, 13, 22]) (bitXor .u32 (bitXor .u32 (bitAnd .u32 v.a0 v.a1) (bitAnd .u32 v.a0 v.a2)) (bitAnd .u32 v.a1 v.a2))
def rnd (v : V8) (k w : Int) : V8 := ⟨add32 (rndT v k w) (rndU v), v.a0, v.a1, v.a2, add32 v.a3 (rndT v k w), v.a4, v.a5, v.a6⟩
/-- The words k(0) to k(63). -/
def roundK : List Int := [1116352408, 1899447441, 3049323471, 3921009573, 961987163, 1508970993, 2453635748, 2870763221, 3624381080, 310598401, 607225278, 1426881987, 1925078388, 2162078206, 2614888103, 3248222580] ++ [3835390401, 4022224774, 264347078, 604807628, 770255983, 1249150122, 1555081692, 1996064986, 2554220882, 2821834349, 2952996808, 3210313671, 3336571891, 3584528711, 113926993, 338241895] ++ [666307205, 773529912, 1294757372, 1396182291, 1695183700, 1986661051, 2177026350, 2456956037, 2730485921, 2820302411, 3259730800, 3345764771, 3516065817, 3600352804, 4094571909, 275423344] ++ [430227734, 506948616, 659060556, 883997877, 958139571, 1322822218, 1537002063, 1747873779, 1955562222, 2024104815, 2227730452, 2361852424, 2428436474, 2756734187, 3204031479, 3329325298]
theorem roundK_len : roundK.length = 64 := by decide
def vTo (h : V8) (ws : List Int) (i : Nat) : V8 := (List.range i).foldl (fun v j => rnd v (roundK.getD j 0) (ws.getD j 0)) h
theorem vTo_succ (h : V8) (ws : List Int) (i : Nat) : vTo h ws (i + 1) = rnd (vTo h ws i) (roundK.getD i 0) (ws.getD i 0) := by
 unfold vTo; rw [List.range_succ, List.foldl_append]; rfl
def sum8 (h v : V8) : V8 := ⟨add32 h.a0 v.a0, add32 h.a1 v.a1, add32 h.a2 v.a2, add32 h.a3 v.a3, add32 h.a4 v.a4, add32 h.a5 v.a5, add32 h.a6 v.a6, add32 h.a7 v.a7⟩
def addM (h : V8) (b : List UInt8) : V8 := sum8 h (vTo h (schedM b) 64)
def sumTo (h v : V8) (i : Nat) : List Int := (List.range i).foldl (fun l j => l.set j (add32 (l.getD j 0) (v.ints.getD j 0))) h.ints
theorem sumTo_succ (h v : V8) (i : Nat) : sumTo h v (i + 1) = (sumTo h v i).set i (add32 ((sumTo h v i).getD i 0) (v.ints.getD i 0)) := by
 unfold sumTo; rw [List.range_succ, List.foldl_append]; rfl
theorem sumTo_len (h v : V8) (i : Nat) : (sumTo h v i).length = 8 := by
 induction i with
 | zero => rfl
 | succ i ih => rw [sumTo_succ, List.length_set, ih]
theorem sumTo_all (h v : V8) : sumTo h v 8 = (sum8 h v).ints := rfl

/-- The bytes of the words. -/
def dByte (h : V8) (i k : Nat) : Int := IntKind.u8.wrap (shrI .u32 (h.ints.getD i 0) (24 - 8 * k))
def dTo (h : V8) (n : Nat) : List Int := (List.range n).foldl (fun l j => l.set j (dByte h (j / 4) (j % 4))) (List.replicate 32 0)
theorem dTo_succ (h : V8) (n : Nat) : dTo h (n + 1) = (dTo h n).set n (dByte h (n / 4) (n % 4)) := by
 unfold dTo; rw [List.range_succ, List.foldl_append]; rfl
theorem dTo_len (h : V8) (n : Nat) : (dTo h n).length = 32 := by
 induction n with
 | zero => simp [dTo]
 | succ n ih => rw [dTo_succ, List.length_set, ih]
def digestM (h : V8) : List UInt8 := (dTo h 32).map fun m => UInt8.ofNat m.toNat

def h0M : V8 := ⟨1779033703, 3144134277, 1013904242, 2773480762, 1359893119, 2600822924, 528734635, 1541459225⟩
def padN (n : Nat) : Nat := (119 - n % 64) % 64
def lenByte (n i : Nat) : UInt8 := UInt8.ofNat (IntKind.u8.wrap (shrI .i64 (IntKind.i64.wrap (8 * (n : Int))) (8 * i))).toNat
def padded (s : List UInt8) : List UInt8 := s ++ [128] ++ List.replicate (padN s.length) 0 ++ [lenByte s.length 7, lenByte s.length 6, lenByte s.length 5, lenByte s.length 4, lenByte s.length 3, lenByte s.length 2, lenByte s.length 1, lenByte s.length 0]
def chunk (b : List UInt8) (i : Nat) : List UInt8 := (b.drop (64 * i)).take 64
def hTo (b : List UInt8) (i : Nat) : V8 := (List.range i).foldl (fun h j => addM h (chunk b j)) h0M
theorem hTo_succ (b : List UInt8) (i : Nat) : hTo b (i + 1) = addM (hTo b i) (chunk b i) := by
 unfold hTo; rw [List.range_succ, List.foldl_append]; rfl
def sumM (s : List UInt8) : List UInt8 := digestM (hTo (padded s) ((padded s).length / 64))
theorem sumM_len (s : List UInt8) : (sumM s).length = 32 := by unfold sumM digestM; rw [List.length_map, dTo_len]
theorem padded_len (s : List UInt8) : (padded s).length % 64 = 0 := by
 unfold padded padN; simp; omega
end Go.Proofs.YteohjgndanlldaaGreatDoor

/- The walks through package digest: rotations. -/
namespace Go.Proofs.YteohjgndanlldaaGreatDoor
open Go Go.K
set_option maxRecDepth 10000
attribute [local irreducible] W WL OpR bitAnd bitOr bitXor bitClr bitNot shlI shrI
set_option maxHeartbeats 1000000

theorem rotS_range (k : Int) : 0 ≤ rotS k ∧ rotS k ≤ 31 := bitAnd_range .u64 _ 31 (by decide) (.inl rfl)
theorem wrap64 {n : Int} (h0 : 0 ≤ n) (h1 : n < 18446744073709551616) : IntKind.u64.wrap n = n := by
 unfold IntKind.wrap; simp [IntKind.signed, IntKind.bits]; omega

theorem rot_c (x k : Int) (g : G) : CallsIn Wd 0 Tryz.prog 149 #[.int .u32 x, .int .i64 k] g.w (Ret g fun _ r => r = .int .u32 (rotl x k)) := by
 have hs := St.start g
 have le0 := G.le.refl g
 refine enter Tryz.func149 rfl Tryz.ntmps149 rfl ?_
 refine W_seq ?_; refine W_region ?_; refine P1 T.ok rfl rfl rfl ?_; refine WL_nil ?_; (with_reducible refine T_then ?_); refine W_seq ?_; refine W_region ?_; refine P1 T.ok rfl rfl rfl ?_; refine P2 T.ok rfl rfl rfl ?_; refine P2 T.ok rfl rfl rfl ?_; refine P1 T.ok rfl rfl rfl ?_; refine WL_nil ?_; (with_reducible refine T_then ?_); refine W_seq ?_; refine W_region ?_; refine P1 T.ok rfl rfl rfl ?_; refine P1 T.ok rfl rfl rfl ?_
 have h := rotS_range k
 refine WL_re (.int .u64 (rotS k)) (t := 10) rfl rfl ?_
 refine WL_o rfl rfl (OpR_shlV rfl rfl rfl h.1 ?_)
 (iterate 3 refine P1 T.ok rfl rfl rfl ?_)
 refine WL_re (.int .u64 (IntKind.u64.wrap (32 - rotS k))) (t := 14) rfl rfl ?_
 refine WL_o rfl rfl (OpR_shrV rfl rfl rfl (by rw [wrap64 (by omega) (by omega)]; omega) ?_)
 refine P2 T.ok rfl rfl rfl ?_; refine P1 T.ok rfl rfl rfl ?_; refine WL_nil ?_; (with_reducible refine T_then ?_)
 exact W_ret (ret1 rfl rfl (hs.ret rfl))

theorem mixed_c (x : Int) (v : Value) (xs : List Int) (g : G) (rs0 : Rs g v xs) : CallsIn Wd 0 Tryz.prog 145 #[.int .u32 x, v] g.w (Ret g fun _ r => r = .int .u32 (mixM x xs)) := by
 obtain ⟨al, cl, rfl⟩ := rs0.isSlice
 have hll := rs0.len_le
 unfold maxLen at hll
 have hs := St.start g
 have le0 := G.le.refl g
 refine enter Tryz.func145 rfl Tryz.ntmps145 rfl ?_
 refine W_seq ?_; refine W_region ?_; refine P1 T.ok rfl rfl rfl ?_; refine WL_nil ?_; (with_reducible refine T_then ?_); refine W_seq ?_; refine W_region ?_; refine P1 T.ok rfl rfl rfl ?_; refine WL_nil ?_; (with_reducible refine T_then ?_); refine W_seq ?_; refine W_seq ?_; refine W_region ?_; (iterate 3 refine P1 T.ok rfl rfl rfl ?_); refine WL_nil ?_; (with_reducible refine T_then ?_); refine W_block ?_
 have rs0c := rs0; have le8 := G.le.refl g
 refine W_loop (fun m a' w => ∃ (i : Nat) (g2 : G), w = g2.w ∧ St g g2 [] ∧ G.le g g2 ∧ i ≤ xs.length ∧ m = xs.length - i ∧
   Fr 22 [] [(0, .int .u32 x), (5, .int .u32 (mixM x (xs.take i))), (8, .slice al xs.length cl), (9, .int .i64 xs.length), (10, .int .i64 i)] a') xs.length
  (fun a' ha => ⟨0, g, rfl, hs, le8, Nat.zero_le _, rfl, ha.keep (by (repeat (first | exact trivial | refine ⟨rfl, ?_⟩)))⟩) ?_
 clear hs le8 rs0
 rintro m a' _ ⟨i, g2, rfl, hs, le8, hi, rfl, ha'⟩
 have rs0 := rs0c.mono le8
 revert a'
 (with_reducible refine T_wp ?_); refine W_seq ?_; refine W_region ?_; refine P1 T.ok rfl rfl rfl ?_; refine WL_nil ?_; (with_reducible refine T_then ?_); refine W_seq ?_
 by_cases hlt : i < xs.length
 ·refine W_yes (b := decide ((i : Int) < (xs.length : Int))) (decide_eq_true (by omega)) rfl ?_
  have hgi := geti_of (xs := xs) (n := (i : Int)) rfl hlt
  have hsn := mixM_snoc x (xs.take i) xs[i]
  rw [← List.take_succ_eq_append_getElem hlt] at hsn
  generalize xs[i] = n at *
  refine W_skip ?_; (with_reducible refine T_then ?_); refine W_seq ?_; refine W_block ?_; refine W_seq ?_; refine W_region ?_
  refine WL_o rfl rfl (OpR_idx T.ok rfl rs0 (y := n) hgi rfl rfl rfl rfl rfl rfl ?_)
  rintro b q ys hep rfl
  refine WL_o rfl rfl (OpR_loadE T.ok 0 rfl hep rfl rfl ?_)
  clear hep
  refine P1 T.ok rfl rfl rfl ?_; refine WL_nil ?_; (with_reducible refine T_then ?_); refine W_region ?_; (iterate 4 refine P1 T.ok rfl rfl rfl ?_)
  refine WL_o rfl rfl (OpR_ret cl149 allF rfl rfl rfl rfl rfl (rot_c _ _ _) ?_); rintro g1 _ hf1 rfl; replace hs := hs.call hf1; have hqe := hf1.le; replace le8 := G.le.trans le8 hqe; replace rs0 := rs0.mono hqe
  refine P2 T.ok rfl rfl rfl ?_; refine P1 T.ok rfl rfl rfl ?_; refine WL_nil ?_; (with_reducible refine T_bn ?_); (with_reducible refine T_then ?_); refine W_region ?_; refine P1 T.ok rfl rfl rfl ?_; refine P1 T.ok rfl rfl rfl ?_; refine WL_nil ?_
  exact fun a ha => ⟨xs.length - (i + 1), by omega, i + 1, _, rfl, hs, le8, by omega, rfl, ha.keep ⟨rfl, by rw [hsn]; rfl, rfl, rfl, kI rfl (by rw [wr (by omega) (by omega)]; omega), trivial⟩⟩
 ·refine W_no (b := decide ((i : Int) < (xs.length : Int))) (decide_eq_false (by omega)) rfl ?_
  rw [List.take_of_length_le (by omega)]
  refine W_exit ?_; (with_reducible refine T_tx ?_; with_reducible refine T_tx ?_); (with_reducible refine T_bx ?_); (with_reducible refine T_then ?_); refine W_seq ?_; refine W_region ?_; refine P1 T.ok rfl rfl rfl ?_; refine P1 T.ok rfl rfl rfl ?_; refine WL_nil ?_; (with_reducible refine T_then ?_)
  exact W_ret (ret1 rfl rfl (hs.ret rfl))
end Go.Proofs.YteohjgndanlldaaGreatDoor

/- The walks through package digest: the words of a block. -/
namespace Go.Proofs.YteohjgndanlldaaGreatDoor
open Go Go.K
set_option maxRecDepth 10000
attribute [local irreducible] W WL OpR bitAnd bitOr bitXor bitClr bitNot shlI shrI
set_option maxHeartbeats 2000000

theorem nextW_at (ws : List Int) (j : Nat) : nextW ws (16 + j) =
  add32 (add32 (add32 (ws.getD j 0) (bitXor .u32 (mixM (ws.getD (j + 1) 0) [7, 18]) (shrI .u32 (ws.getD (j + 1) 0) 3))) (ws.getD (j + 9) 0)) (bitXor .u32 (mixM (ws.getD (j + 14) 0) [17, 19]) (shrI .u32 (ws.getD (j + 14) 0) 10)) := by
 unfold nextW
 rw [show 16 + j - 16 = j from by omega, show 16 + j - 15 = j + 1 from by omega, show 16 + j - 7 = j + 9 from by omega, show 16 + j - 2 = j + 14 from by omega]
def bytePtr (x : UInt8) : Fact := ⟨fun v g => ∃ b p, v = .pointer (some ⟨b, p, none⟩) ∧ EP g b p [.int .u8 (x.toNat : Int)], fun _ _ _ hf ⟨b, p, e, h1⟩ => ⟨b, p, e, h1.mono hf.le⟩⟩
theorem geti_getD {α : Type} {xs : List α} {d : α} {n : Int} {j : Nat} (h : n = j) (hj : j < xs.length) : geti xs n = some (xs.getD j d) := by
 rw [geti_of h hj, List.getD_eq_getElem?_getD, List.getElem?_eq_getElem hj]; rfl






theorem sched_c (v : Value) (b : List UInt8) (g : G) (rs0 : Rs g v b) (hb : b.length = 64) :
  CallsIn Wd 0 Tryz.prog 144 #[v] g.w (Ret g fun _ r => r = .agg ((schedM b).map (Value.int .u32)).toArray) := by
 have hs := St.start g
 have le0 := G.le.refl g
 refine enter Tryz.func144 rfl Tryz.ntmps144 rfl ?_
 refine W_seq ?_; refine W_region ?_
 refine WL_o rfl rfl (OpR_alloc T.ok rfl hs rfl rfl ?_); clear hs; rintro bw g1 hs hqe; replace le0 := G.le.trans le0 hqe; replace rs0 := rs0.mono hqe
 have hst : St g g1 [.obj bw (.cells ((schedA b 0).map (Value.int .u32)).toArray 214 (0, 0))] := hs
 replace hs := hst; clear hst
 refine WL_nil ?_; (with_reducible refine T_then ?_); refine W_seq ?_; refine W_seq ?_; refine W_region ?_; refine P1 T.ok rfl rfl rfl ?_; refine WL_nil ?_; (with_reducible refine T_then ?_); refine W_block ?_
 have rs0c := rs0; have le8 := G.le.refl g1
 refine W_loop (fun m a' w => ∃ (i : Nat) (g2 : G), w = g2.w ∧ St g g2 [.obj bw (.cells ((schedA b i).map (Value.int .u32)).toArray 214 (0, 0))] ∧ G.le g1 g2 ∧ i ≤ 16 ∧ m = 16 - i ∧
   Fr 84 [] [(0, v), (2, .pointer (some ⟨bw, 0, none⟩)), (7, .int .i64 i)] a') 16
  (fun a' ha => ⟨0, g1, rfl, hs, le8, Nat.zero_le _, rfl, ha.keep (by (repeat (first | exact trivial | refine ⟨rfl, ?_⟩)))⟩) ?_
 clear hs le8 rs0
 rintro m a' _ ⟨i, g2, rfl, hs, le8, hi, rfl, ha'⟩
 have rs0 := rs0c.mono le8
 revert a'
 (with_reducible refine T_wp ?_); refine W_seq ?_; refine W_region ?_; refine P1 T.ok rfl rfl rfl ?_; refine WL_nil ?_; (with_reducible refine T_then ?_); refine W_seq ?_
 by_cases hlt : i < 16
 ·refine W_yes (b := decide ((i : Int) < 16)) (decide_eq_true (by omega)) rfl ?_
  have hsn := schedA_succ b i
  have hwl := schedA_len b i
  generalize schedA b i = ws at *
  refine W_skip ?_; (with_reducible refine T_then ?_); refine W_seq ?_; refine W_block ?_; refine W_seq ?_; refine W_region ?_; refine P1 T.ok rfl rfl rfl ?_; refine P1 T.ok rfl rfl rfl ?_; refine WL_nil ?_; (with_reducible refine T_then ?_)
  apply W_draw allF rfl (Fact.eq _ :: Fact.eq _ :: Fact.eq _ :: Fact.eq _ :: (bytePtr (b.getD (4 * i) 0)) :: Fact.eq _ :: Fact.eq _ :: Fact.eq _ :: Fact.eq _ :: Fact.eq _ :: Fact.eq _ :: Fact.eq _ :: (bytePtr (b.getD (4 * i + 1) 0)) :: Fact.eq _ :: Fact.eq _ :: Fact.eq _ :: Fact.eq _ :: Fact.eq _ :: Fact.eq _ :: Fact.eq _ :: Fact.eq _ :: (bytePtr (b.getD (4 * i + 2) 0)) :: Fact.eq _ :: Fact.eq _ :: Fact.eq _ :: Fact.eq _ :: Fact.eq _ :: Fact.eq _ :: Fact.eq _ :: Fact.eq _ :: (bytePtr (b.getD (4 * i + 3) 0)) :: Fact.eq _ :: Fact.eq _ :: Fact.eq _ :: Fact.eq _ :: []) 35 [(33, 43), (34, 44)] rfl rfl
  ·refine D_s (js := []) (by kernel_rfl) (fun _ _ => QA_nil (DPu T.ok rfl rfl rfl)) ?_
   refine D_s (js := []) (by kernel_rfl) (fun _ _ => QA_nil (DPu T.ok rfl rfl rfl)) ?_
   refine D_s (js := []) (by kernel_rfl) (fun _ _ => QA_nil (DPu T.ok rfl rfl rfl)) ?_
   refine D_cons (D_step2 (js := [(2, 12)]) (by kernel_rfl) fun gd hf => ?_) ?_
   ·have hsd := hs.dr.call hf; have hfe := (G.le_dr _).trans hf.le
    refine QA_eq rfl ?_
    refine QA_nil ?_
    refine D_yes rfl ?_
    refine OpR_pure _ T.ok rfl ?_
    refine ⟨_, rfl, Fr0.refl _, ?_⟩
    exact congrArg (Value.int .i64) (show _ = ((4 * i : Nat) : Int) from by (try rw [wr (by omega) (by omega)]); (try rw [wr (by omega) (by omega)]); omega)
   refine D_cons (D_step2 (js := [(1, 11), (3, 13)]) (by kernel_rfl) fun gd hf => ?_) ?_
   ·have hsd := hs.dr.call hf; have hfe := (G.le_dr _).trans hf.le
    refine QA_eq rfl ?_; refine QA_eq rfl ?_
    refine QA_nil ?_
    refine D_yes rfl ?_
    refine OpR_idx T.ok rfl (rs0.mono hfe) (y := b.getD (4 * i) 0) (geti_getD (j := 4 * i) rfl (by omega)) rfl rfl rfl rfl rfl rfl ?_
    intro bb p ys hep hrc
    exact ⟨_, rfl, Fr0.refl _, bb, p, rfl, by rw [← show ys = [Value.int .u8 ((b.getD (4 * i) 0).toNat : Int)] from hrc]; exact hep⟩
   refine D_cons (D_step2 (js := [(4, 14)]) (by kernel_rfl) fun gd hf => ?_) ?_
   ·have hsd := hs.dr.call hf; have hfe := (G.le_dr _).trans hf.le
    refine QA_any fun v4 h4 => ?_
    refine QA_nil ?_
    obtain ⟨bb, p, rfl, hep⟩ := h4
    refine D_yes rfl ?_
    refine OpR_loadE T.ok 0 rfl hep rfl rfl ?_
    refine ⟨_, rfl, Fr0.refl _, ?_⟩
    exact rfl
   refine D_s (js := [(5, 15)]) (by kernel_rfl) (fun _ _ => QA_eq rfl (QA_nil (DPu2 T.ok rfl rfl rfl))) ?_
   refine D_s (js := [(6, 16)]) (by kernel_rfl) (fun _ _ => QA_eq rfl (QA_nil (DPu2 T.ok rfl rfl rfl))) ?_
   refine D_s (js := []) (by kernel_rfl) (fun _ _ => QA_nil (DPu T.ok rfl rfl rfl)) ?_
   refine D_s (js := []) (by kernel_rfl) (fun _ _ => QA_nil (DPu T.ok rfl rfl rfl)) ?_
   refine D_cons (D_step2 (js := [(9, 19)]) (by kernel_rfl) fun gd hf => ?_) ?_
   ·have hsd := hs.dr.call hf; have hfe := (G.le_dr _).trans hf.le
    refine QA_eq rfl ?_
    refine QA_nil ?_
    refine D_yes rfl ?_
    refine OpR_pure _ T.ok rfl ?_
    refine ⟨_, rfl, Fr0.refl _, ?_⟩
    exact congrArg (Value.int .i64) (show _ = ((4 * i : Nat) : Int) from by (try rw [wr (by omega) (by omega)]); (try rw [wr (by omega) (by omega)]); omega)
   refine D_cons (D_step2 (js := [(10, 20)]) (by kernel_rfl) fun gd hf => ?_) ?_
   ·have hsd := hs.dr.call hf; have hfe := (G.le_dr _).trans hf.le
    refine QA_eq rfl ?_
    refine QA_nil ?_
    refine D_yes rfl ?_
    refine OpR_pure _ T.ok rfl ?_
    refine ⟨_, rfl, Fr0.refl _, ?_⟩
    exact congrArg (Value.int .i64) (show _ = ((4 * i + 1 : Nat) : Int) from by (try rw [wr (by omega) (by omega)]); (try rw [wr (by omega) (by omega)]); omega)
   refine D_cons (D_step2 (js := [(8, 18), (11, 21)]) (by kernel_rfl) fun gd hf => ?_) ?_
   ·have hsd := hs.dr.call hf; have hfe := (G.le_dr _).trans hf.le
    refine QA_eq rfl ?_; refine QA_eq rfl ?_
    refine QA_nil ?_
    refine D_yes rfl ?_
    refine OpR_idx T.ok rfl (rs0.mono hfe) (y := b.getD (4 * i + 1) 0) (geti_getD (j := 4 * i + 1) rfl (by omega)) rfl rfl rfl rfl rfl rfl ?_
    intro bb p ys hep hrc
    exact ⟨_, rfl, Fr0.refl _, bb, p, rfl, by rw [← show ys = [Value.int .u8 ((b.getD (4 * i + 1) 0).toNat : Int)] from hrc]; exact hep⟩
   refine D_cons (D_step2 (js := [(12, 22)]) (by kernel_rfl) fun gd hf => ?_) ?_
   ·have hsd := hs.dr.call hf; have hfe := (G.le_dr _).trans hf.le
    refine QA_any fun v12 h12 => ?_
    refine QA_nil ?_
    obtain ⟨bb, p, rfl, hep⟩ := h12
    refine D_yes rfl ?_
    refine OpR_loadE T.ok 0 rfl hep rfl rfl ?_
    refine ⟨_, rfl, Fr0.refl _, ?_⟩
    exact rfl
   refine D_s (js := [(13, 23)]) (by kernel_rfl) (fun _ _ => QA_eq rfl (QA_nil (DPu2 T.ok rfl rfl rfl))) ?_
   refine D_s (js := [(14, 24)]) (by kernel_rfl) (fun _ _ => QA_eq rfl (QA_nil (DPu2 T.ok rfl rfl rfl))) ?_
   refine D_s (js := [(7, 17), (15, 25)]) (by kernel_rfl) (fun _ _ => QA_eq rfl (QA_eq rfl (QA_nil (DPu2 T.ok rfl rfl rfl)))) ?_
   refine D_s (js := []) (by kernel_rfl) (fun _ _ => QA_nil (DPu T.ok rfl rfl rfl)) ?_
   refine D_s (js := []) (by kernel_rfl) (fun _ _ => QA_nil (DPu T.ok rfl rfl rfl)) ?_
   refine D_cons (D_step2 (js := [(18, 28)]) (by kernel_rfl) fun gd hf => ?_) ?_
   ·have hsd := hs.dr.call hf; have hfe := (G.le_dr _).trans hf.le
    refine QA_eq rfl ?_
    refine QA_nil ?_
    refine D_yes rfl ?_
    refine OpR_pure _ T.ok rfl ?_
    refine ⟨_, rfl, Fr0.refl _, ?_⟩
    exact congrArg (Value.int .i64) (show _ = ((4 * i : Nat) : Int) from by (try rw [wr (by omega) (by omega)]); (try rw [wr (by omega) (by omega)]); omega)
   refine D_cons (D_step2 (js := [(19, 29)]) (by kernel_rfl) fun gd hf => ?_) ?_
   ·have hsd := hs.dr.call hf; have hfe := (G.le_dr _).trans hf.le
    refine QA_eq rfl ?_
    refine QA_nil ?_
    refine D_yes rfl ?_
    refine OpR_pure _ T.ok rfl ?_
    refine ⟨_, rfl, Fr0.refl _, ?_⟩
    exact congrArg (Value.int .i64) (show _ = ((4 * i + 2 : Nat) : Int) from by (try rw [wr (by omega) (by omega)]); (try rw [wr (by omega) (by omega)]); omega)
   refine D_cons (D_step2 (js := [(17, 27), (20, 30)]) (by kernel_rfl) fun gd hf => ?_) ?_
   ·have hsd := hs.dr.call hf; have hfe := (G.le_dr _).trans hf.le
    refine QA_eq rfl ?_; refine QA_eq rfl ?_
    refine QA_nil ?_
    refine D_yes rfl ?_
    refine OpR_idx T.ok rfl (rs0.mono hfe) (y := b.getD (4 * i + 2) 0) (geti_getD (j := 4 * i + 2) rfl (by omega)) rfl rfl rfl rfl rfl rfl ?_
    intro bb p ys hep hrc
    exact ⟨_, rfl, Fr0.refl _, bb, p, rfl, by rw [← show ys = [Value.int .u8 ((b.getD (4 * i + 2) 0).toNat : Int)] from hrc]; exact hep⟩
   refine D_cons (D_step2 (js := [(21, 31)]) (by kernel_rfl) fun gd hf => ?_) ?_
   ·have hsd := hs.dr.call hf; have hfe := (G.le_dr _).trans hf.le
    refine QA_any fun v21 h21 => ?_
    refine QA_nil ?_
    obtain ⟨bb, p, rfl, hep⟩ := h21
    refine D_yes rfl ?_
    refine OpR_loadE T.ok 0 rfl hep rfl rfl ?_
    refine ⟨_, rfl, Fr0.refl _, ?_⟩
    exact rfl
   refine D_s (js := [(22, 32)]) (by kernel_rfl) (fun _ _ => QA_eq rfl (QA_nil (DPu2 T.ok rfl rfl rfl))) ?_
   refine D_s (js := [(23, 33)]) (by kernel_rfl) (fun _ _ => QA_eq rfl (QA_nil (DPu2 T.ok rfl rfl rfl))) ?_
   refine D_s (js := [(16, 26), (24, 34)]) (by kernel_rfl) (fun _ _ => QA_eq rfl (QA_eq rfl (QA_nil (DPu2 T.ok rfl rfl rfl)))) ?_
   refine D_s (js := []) (by kernel_rfl) (fun _ _ => QA_nil (DPu T.ok rfl rfl rfl)) ?_
   refine D_s (js := []) (by kernel_rfl) (fun _ _ => QA_nil (DPu T.ok rfl rfl rfl)) ?_
   refine D_cons (D_step2 (js := [(27, 37)]) (by kernel_rfl) fun gd hf => ?_) ?_
   ·have hsd := hs.dr.call hf; have hfe := (G.le_dr _).trans hf.le
    refine QA_eq rfl ?_
    refine QA_nil ?_
    refine D_yes rfl ?_
    refine OpR_pure _ T.ok rfl ?_
    refine ⟨_, rfl, Fr0.refl _, ?_⟩
    exact congrArg (Value.int .i64) (show _ = ((4 * i : Nat) : Int) from by (try rw [wr (by omega) (by omega)]); (try rw [wr (by omega) (by omega)]); omega)
   refine D_cons (D_step2 (js := [(28, 38)]) (by kernel_rfl) fun gd hf => ?_) ?_
   ·have hsd := hs.dr.call hf; have hfe := (G.le_dr _).trans hf.le
    refine QA_eq rfl ?_
    refine QA_nil ?_
    refine D_yes rfl ?_
    refine OpR_pure _ T.ok rfl ?_
    refine ⟨_, rfl, Fr0.refl _, ?_⟩
    exact congrArg (Value.int .i64) (show _ = ((4 * i + 3 : Nat) : Int) from by (try rw [wr (by omega) (by omega)]); (try rw [wr (by omega) (by omega)]); omega)
   refine D_cons (D_step2 (js := [(26, 36), (29, 39)]) (by kernel_rfl) fun gd hf => ?_) ?_
   ·have hsd := hs.dr.call hf; have hfe := (G.le_dr _).trans hf.le
    refine QA_eq rfl ?_; refine QA_eq rfl ?_
    refine QA_nil ?_
    refine D_yes rfl ?_
    refine OpR_idx T.ok rfl (rs0.mono hfe) (y := b.getD (4 * i + 3) 0) (geti_getD (j := 4 * i + 3) rfl (by omega)) rfl rfl rfl rfl rfl rfl ?_
    intro bb p ys hep hrc
    exact ⟨_, rfl, Fr0.refl _, bb, p, rfl, by rw [← show ys = [Value.int .u8 ((b.getD (4 * i + 3) 0).toNat : Int)] from hrc]; exact hep⟩
   refine D_cons (D_step2 (js := [(30, 40)]) (by kernel_rfl) fun gd hf => ?_) ?_
   ·have hsd := hs.dr.call hf; have hfe := (G.le_dr _).trans hf.le
    refine QA_any fun v30 h30 => ?_
    refine QA_nil ?_
    obtain ⟨bb, p, rfl, hep⟩ := h30
    refine D_yes rfl ?_
    refine OpR_loadE T.ok 0 rfl hep rfl rfl ?_
    refine ⟨_, rfl, Fr0.refl _, ?_⟩
    exact rfl
   refine D_s (js := [(31, 41)]) (by kernel_rfl) (fun _ _ => QA_eq rfl (QA_nil (DPu2 T.ok rfl rfl rfl))) ?_
   refine D_s (js := [(25, 35), (32, 42)]) (by kernel_rfl) (fun _ _ => QA_eq rfl (QA_eq rfl (QA_nil (DPu2 T.ok rfl rfl rfl)))) ?_
   refine D_cons (D_step2 (js := [(0, 10), (0, 10)]) (by kernel_rfl) fun gd hf => ?_) ?_
   ·have hsd := hs.dr.call hf; have hfe := (G.le_dr _).trans hf.le
    refine QA_eq rfl ?_; refine QA_eq rfl ?_
    refine QA_nil ?_
    refine D_yes rfl ?_
    refine OpR_idxA T.ok (q := i) rfl rfl rfl rfl rfl rfl (by omega) ?_
    exact ⟨_, rfl, Fr0.refl _, rfl⟩
   exact D_nil
  intro g1 hf1; refine QA_eq rfl ?_; refine QA_eq rfl ?_; refine QA_nil ?_
  replace hs := hs.dr.call hf1; have hqe := (G.le_dr _).trans hf1.le; replace le8 := G.le.trans le8 hqe; replace rs0 := rs0.mono hqe
  skip
  refine WL_n rfl (OpR_storeI T.ok 0 i rfl hs rfl rfl rfl rfl rfl rfl (by omega) ?_)
  rintro g5 hs hqe; replace le8 := G.le.trans le8 hqe; replace rs0 := rs0.mono hqe
  refine WL_nil ?_; (with_reducible refine T_bn ?_); (with_reducible refine T_then ?_); refine W_region ?_; refine P1 T.ok rfl rfl rfl ?_; refine P1 T.ok rfl rfl rfl ?_; refine WL_nil ?_
  exact fun a ha => ⟨16 - (i + 1), by omega, i + 1, _, rfl, by rw [hsn]; exact hs, le8, by omega, rfl, ha.keep ⟨rfl, rfl, kI rfl (by rw [wr (by omega) (by omega)]; omega), trivial⟩⟩
 ·refine W_no (b := decide ((i : Int) < 16)) (decide_eq_false (by omega)) rfl ?_
  obtain rfl : i = 16 := by omega
  have hst : St g g2 [.obj bw (.cells ((schedB b 0).map (Value.int .u32)).toArray 214 (0, 0))] := by
   have e : schedB b 0 = schedA b 16 := by unfold schedB; rw [List.range_zero, List.foldl_nil]
   rw [e]; exact hs
  replace hs := hst; clear hst
  refine W_exit ?_; (with_reducible refine T_tx ?_; with_reducible refine T_tx ?_); (with_reducible refine T_bx ?_); (with_reducible refine T_then ?_); refine W_seq ?_; refine W_seq ?_; refine W_region ?_; refine P1 T.ok rfl rfl rfl ?_; refine WL_nil ?_; (with_reducible refine T_then ?_); refine W_block ?_
  have le9 := G.le.refl g2
  refine W_loop (fun m a' w => ∃ (j : Nat) (g3 : G), w = g3.w ∧ St g g3 [.obj bw (.cells ((schedB b j).map (Value.int .u32)).toArray 214 (0, 0))] ∧ G.le g2 g3 ∧ j ≤ 48 ∧ m = 48 - j ∧
    Fr 84 [] [(2, .pointer (some ⟨bw, 0, none⟩)), (4, .int .i64 ((16 + j : Nat) : Int))] a') 48
   (fun a' ha => ⟨0, g2, rfl, hs, le9, Nat.zero_le _, rfl, ha.keep (by (repeat (first | exact trivial | refine ⟨rfl, ?_⟩)))⟩) ?_
  clear hs le9 rs0
  rintro m a' _ ⟨j, g3, rfl, hs, le9, hj, rfl, ha'⟩
  revert a'
  (with_reducible refine T_wp ?_); refine W_seq ?_; refine W_seq ?_; refine W_region ?_; refine P1 T.ok rfl rfl rfl ?_; refine P1 T.ok rfl rfl rfl ?_; refine WL_nil ?_; (with_reducible refine T_then ?_)
  by_cases hlj : j < 48
  ·refine W_yes (b := decide (((16 + j : Nat) : Int) < 64)) (decide_eq_true (by omega)) rfl ?_
   have hsn := schedB_succ b j
   rw [nextW_at] at hsn
   have hwl := schedB_len b j
   generalize schedB b j = ws at *
   refine W_skip ?_; (with_reducible refine T_then ?_); refine W_seq ?_; refine W_block ?_; refine W_seq ?_
   apply W_draw allF rfl (Fact.eq _ :: Fact.eq _ :: Fact.eq _ :: Fact.eq _ :: Fact.eq _ :: Fact.eq _ :: Fact.eq _ :: Fact.eq _ :: Fact.eq _ :: Fact.eq _ :: []) 10 [(8, 5), (9, 6)] rfl rfl
   ·refine D_s (js := []) (by kernel_rfl) (fun _ _ => QA_nil (DPu T.ok rfl rfl rfl)) ?_
    refine D_cons (D_step2 (js := [(0, 50)]) (by kernel_rfl) fun gd hf => ?_) ?_
    ·have hsd := hs.dr.call hf; have hfe := (G.le_dr _).trans hf.le
     refine QA_eq rfl ?_
     refine QA_nil ?_
     refine D_yes rfl ?_
     refine OpR_pure _ T.ok rfl ?_
     refine ⟨_, rfl, Fr0.refl _, ?_⟩
     exact congrArg (Value.int .i64) (show _ = ((j + 1 : Nat) : Int) from by (try rw [wr (by omega) (by omega)]); (try rw [wr (by omega) (by omega)]); omega)
    refine D_cons (D_step2 (js := [(1, 51)]) (by kernel_rfl) fun gd hf => ?_) ?_
    ·have hsd := hs.dr.call hf; have hfe := (G.le_dr _).trans hf.le
     refine QA_eq rfl ?_
     refine QA_nil ?_
     refine D_yes rfl ?_
     refine OpR_idxA T.ok (q := j + 1) rfl rfl rfl rfl rfl rfl (by omega) ?_
     exact ⟨_, rfl, Fr0.refl _, rfl⟩
    refine D_cons (D_step2 (js := [(2, 52)]) (by kernel_rfl) fun gd hf => ?_) ?_
    ·have hsd := hs.dr.call hf; have hfe := (G.le_dr _).trans hf.le
     refine QA_eq rfl ?_
     refine QA_nil ?_
     refine D_yes rfl ?_
     refine OpR_loadI T.ok 0 (j + 1) rfl hsd rfl rfl rfl rfl rfl (by omega) ?_
     exact ⟨_, rfl, Fr0.refl _, rfl⟩
    refine D_s (js := []) (by kernel_rfl) (fun _ _ => QA_nil (DPu T.ok rfl rfl rfl)) ?_
    refine D_cons (D_step2 (js := [(4, 54)]) (by kernel_rfl) fun gd hf => ?_) ?_
    ·have hsd := hs.dr.call hf; have hfe := (G.le_dr _).trans hf.le
     refine QA_eq rfl ?_
     refine QA_nil ?_
     refine D_yes rfl ?_
     refine OpR_pure _ T.ok rfl ?_
     refine ⟨_, rfl, Fr0.refl _, ?_⟩
     exact congrArg (Value.int .i64) (show _ = ((j + 14 : Nat) : Int) from by (try rw [wr (by omega) (by omega)]); (try rw [wr (by omega) (by omega)]); omega)
    refine D_cons (D_step2 (js := [(5, 55)]) (by kernel_rfl) fun gd hf => ?_) ?_
    ·have hsd := hs.dr.call hf; have hfe := (G.le_dr _).trans hf.le
     refine QA_eq rfl ?_
     refine QA_nil ?_
     refine D_yes rfl ?_
     refine OpR_idxA T.ok (q := j + 14) rfl rfl rfl rfl rfl rfl (by omega) ?_
     exact ⟨_, rfl, Fr0.refl _, rfl⟩
    refine D_cons (D_step2 (js := [(6, 56)]) (by kernel_rfl) fun gd hf => ?_) ?_
    ·have hsd := hs.dr.call hf; have hfe := (G.le_dr _).trans hf.le
     refine QA_eq rfl ?_
     refine QA_nil ?_
     refine D_yes rfl ?_
     refine OpR_loadI T.ok 0 (j + 14) rfl hsd rfl rfl rfl rfl rfl (by omega) ?_
     exact ⟨_, rfl, Fr0.refl _, rfl⟩
    refine D_s (js := [(3, 53), (3, 53)]) (by kernel_rfl) (fun _ _ => QA_eq rfl (QA_eq rfl (QA_nil (DPu T.ok rfl rfl rfl)))) ?_
    refine D_s (js := [(7, 57), (7, 57)]) (by kernel_rfl) (fun _ _ => QA_eq rfl (QA_eq rfl (QA_nil (DPu T.ok rfl rfl rfl)))) ?_
    exact D_nil
   intro g1 hf1; refine QA_eq rfl ?_; refine QA_eq rfl ?_; refine QA_nil ?_
   replace hs := hs.dr.call hf1; have hqe := (G.le_dr _).trans hf1.le; replace le9 := G.le.trans le9 hqe
   refine WL_nil ?_; (with_reducible refine T_then ?_)
   apply W_draw allF rfl (Fact.eq _ :: Fact.eq _ :: Fact.eq _ :: Fact.eq _ :: Fact.eq _ :: Fact.eq _ :: (Fact.rs ([7, 18] : List Int)) :: Fact.eq _ :: Fact.eq _ :: Fact.eq _ :: Fact.eq _ :: Fact.eq _ :: Fact.eq _ :: Fact.eq _ :: Fact.eq _ :: Fact.eq _ :: Fact.eq _ :: Fact.eq _ :: (Fact.rs ([17, 19] : List Int)) :: Fact.eq _ :: Fact.eq _ :: Fact.eq _ :: Fact.eq _ :: Fact.eq _ :: Fact.eq _ :: []) 25 [(23, 81), (24, 82)] rfl rfl
   ·refine D_s (js := []) (by kernel_rfl) (fun _ _ => QA_nil (DPu T.ok rfl rfl rfl)) ?_
    refine D_s (js := []) (by kernel_rfl) (fun _ _ => QA_nil (DPu T.ok rfl rfl rfl)) ?_
    refine D_cons (D_step2 (js := [(1, 59)]) (by kernel_rfl) fun gd hf => ?_) ?_
    ·have hsd := hs.dr.call hf; have hfe := (G.le_dr _).trans hf.le
     refine QA_eq rfl ?_
     refine QA_nil ?_
     refine D_yes rfl ?_
     refine OpR_pure _ T.ok rfl ?_
     refine ⟨_, rfl, Fr0.refl _, ?_⟩
     exact congrArg (Value.int .i64) (show _ = ((j : Nat) : Int) from by (try rw [wr (by omega) (by omega)]); (try rw [wr (by omega) (by omega)]); omega)
    refine D_cons (D_step2 (js := [(2, 60)]) (by kernel_rfl) fun gd hf => ?_) ?_
    ·have hsd := hs.dr.call hf; have hfe := (G.le_dr _).trans hf.le
     refine QA_eq rfl ?_
     refine QA_nil ?_
     refine D_yes rfl ?_
     refine OpR_idxA T.ok (q := j) rfl rfl rfl rfl rfl rfl (by omega) ?_
     exact ⟨_, rfl, Fr0.refl _, rfl⟩
    refine D_cons (D_step2 (js := [(3, 61)]) (by kernel_rfl) fun gd hf => ?_) ?_
    ·have hsd := hs.dr.call hf; have hfe := (G.le_dr _).trans hf.le
     refine QA_eq rfl ?_
     refine QA_nil ?_
     refine D_yes rfl ?_
     refine OpR_loadI T.ok 0 (j) rfl hsd rfl rfl rfl rfl rfl (by omega) ?_
     exact ⟨_, rfl, Fr0.refl _, rfl⟩
    refine D_s (js := []) (by kernel_rfl) (fun _ _ => QA_nil (DPu T.ok rfl rfl rfl)) ?_
    refine D_cons (D_step2 (js := []) (by kernel_rfl) fun gd hf => ?_) ?_
    ·have hsd := hs.dr.call hf; have hfe := (G.le_dr _).trans hf.le
     refine QA_nil ?_
     refine D_yes rfl ?_
     refine OpR_lit T.ok rfl (St.start gd) (vs := [(0, .int .i64 7), (1, .int .i64 18)]) (cells := [.int .i64 7, .int .i64 18]) rfl rfl rfl rfl rfl rfl (by decide) (by decide) (by kernel_rfl) rfl ?_
     intro bb g' hs' hle
     obtain ⟨g2, e1, e2, e3⟩ := hs'.lit0 (α := Int) (RcL.ints _ [7, 18])
     exact ⟨g2, e1, e2, e3⟩
    refine D_cons (D_step2 (js := [(5, 63), (6, 64)]) (by kernel_rfl) fun gd hf => ?_) ?_
    ·have hsd := hs.dr.call hf; have hfe := (G.le_dr _).trans hf.le
     refine QA_eq rfl ?_; refine QA_any fun v6 h6 => ?_
     refine QA_nil ?_
     refine D_yes rfl ?_
     refine OpR_ret cl145 allF rfl rfl rfl rfl rfl (mixed_c _ _ [7, 18] _ h6) fun g' v h1 h2 => ⟨g', rfl, h1, ?_⟩
     exact h2
    refine D_s (js := []) (by kernel_rfl) (fun _ _ => QA_nil (DPu T.ok rfl rfl rfl)) ?_
    refine D_s (js := [(8, 66)]) (by kernel_rfl) (fun _ _ => QA_eq rfl (QA_nil (DPu2 T.ok rfl rfl rfl))) ?_
    refine D_s (js := [(7, 65), (9, 67)]) (by kernel_rfl) (fun _ _ => QA_eq rfl (QA_eq rfl (QA_nil (DPu2 T.ok rfl rfl rfl)))) ?_
    refine D_s (js := [(4, 62), (10, 68)]) (by kernel_rfl) (fun _ _ => QA_eq rfl (QA_eq rfl (QA_nil (DPu T.ok rfl rfl rfl)))) ?_
    refine D_s (js := []) (by kernel_rfl) (fun _ _ => QA_nil (DPu T.ok rfl rfl rfl)) ?_
    refine D_cons (D_step2 (js := [(12, 70)]) (by kernel_rfl) fun gd hf => ?_) ?_
    ·have hsd := hs.dr.call hf; have hfe := (G.le_dr _).trans hf.le
     refine QA_eq rfl ?_
     refine QA_nil ?_
     refine D_yes rfl ?_
     refine OpR_pure _ T.ok rfl ?_
     refine ⟨_, rfl, Fr0.refl _, ?_⟩
     exact congrArg (Value.int .i64) (show _ = ((j + 9 : Nat) : Int) from by (try rw [wr (by omega) (by omega)]); (try rw [wr (by omega) (by omega)]); omega)
    refine D_cons (D_step2 (js := [(13, 71)]) (by kernel_rfl) fun gd hf => ?_) ?_
    ·have hsd := hs.dr.call hf; have hfe := (G.le_dr _).trans hf.le
     refine QA_eq rfl ?_
     refine QA_nil ?_
     refine D_yes rfl ?_
     refine OpR_idxA T.ok (q := j + 9) rfl rfl rfl rfl rfl rfl (by omega) ?_
     exact ⟨_, rfl, Fr0.refl _, rfl⟩
    refine D_cons (D_step2 (js := [(14, 72)]) (by kernel_rfl) fun gd hf => ?_) ?_
    ·have hsd := hs.dr.call hf; have hfe := (G.le_dr _).trans hf.le
     refine QA_eq rfl ?_
     refine QA_nil ?_
     refine D_yes rfl ?_
     refine OpR_loadI T.ok 0 (j + 9) rfl hsd rfl rfl rfl rfl rfl (by omega) ?_
     exact ⟨_, rfl, Fr0.refl _, rfl⟩
    refine D_s (js := [(11, 69), (15, 73)]) (by kernel_rfl) (fun _ _ => QA_eq rfl (QA_eq rfl (QA_nil (DPu T.ok rfl rfl rfl)))) ?_
    refine D_s (js := []) (by kernel_rfl) (fun _ _ => QA_nil (DPu T.ok rfl rfl rfl)) ?_
    refine D_cons (D_step2 (js := []) (by kernel_rfl) fun gd hf => ?_) ?_
    ·have hsd := hs.dr.call hf; have hfe := (G.le_dr _).trans hf.le
     refine QA_nil ?_
     refine D_yes rfl ?_
     refine OpR_lit T.ok rfl (St.start gd) (vs := [(0, .int .i64 17), (1, .int .i64 19)]) (cells := [.int .i64 17, .int .i64 19]) rfl rfl rfl rfl rfl rfl (by decide) (by decide) (by kernel_rfl) rfl ?_
     intro bb g' hs' hle
     obtain ⟨g2, e1, e2, e3⟩ := hs'.lit0 (α := Int) (RcL.ints _ [17, 19])
     exact ⟨g2, e1, e2, e3⟩
    refine D_cons (D_step2 (js := [(17, 75), (18, 76)]) (by kernel_rfl) fun gd hf => ?_) ?_
    ·have hsd := hs.dr.call hf; have hfe := (G.le_dr _).trans hf.le
     refine QA_eq rfl ?_; refine QA_any fun v18 h18 => ?_
     refine QA_nil ?_
     refine D_yes rfl ?_
     refine OpR_ret cl145 allF rfl rfl rfl rfl rfl (mixed_c _ _ [17, 19] _ h18) fun g' v h1 h2 => ⟨g', rfl, h1, ?_⟩
     exact h2
    refine D_s (js := []) (by kernel_rfl) (fun _ _ => QA_nil (DPu T.ok rfl rfl rfl)) ?_
    refine D_s (js := [(20, 78)]) (by kernel_rfl) (fun _ _ => QA_eq rfl (QA_nil (DPu2 T.ok rfl rfl rfl))) ?_
    refine D_s (js := [(19, 77), (21, 79)]) (by kernel_rfl) (fun _ _ => QA_eq rfl (QA_eq rfl (QA_nil (DPu2 T.ok rfl rfl rfl)))) ?_
    refine D_s (js := [(16, 74), (22, 80)]) (by kernel_rfl) (fun _ _ => QA_eq rfl (QA_eq rfl (QA_nil (DPu T.ok rfl rfl rfl)))) ?_
    refine D_cons (D_step2 (js := [(0, 58), (0, 58)]) (by kernel_rfl) fun gd hf => ?_) ?_
    ·have hsd := hs.dr.call hf; have hfe := (G.le_dr _).trans hf.le
     refine QA_eq rfl ?_; refine QA_eq rfl ?_
     refine QA_nil ?_
     refine D_yes rfl ?_
     refine OpR_idxA T.ok (q := 16 + j) rfl rfl rfl rfl rfl rfl (by omega) ?_
     exact ⟨_, rfl, Fr0.refl _, rfl⟩
    exact D_nil
   intro g1 hf1; refine QA_eq rfl ?_; refine QA_eq rfl ?_; refine QA_nil ?_
   replace hs := hs.dr.call hf1; have hqe := (G.le_dr _).trans hf1.le; replace le9 := G.le.trans le9 hqe
   skip
   refine WL_n rfl (OpR_storeI T.ok 0 (16 + j) rfl hs rfl rfl rfl rfl rfl rfl (by omega) ?_)
   rintro g5 hs hqe; replace le9 := G.le.trans le9 hqe
   refine WL_nil ?_; (with_reducible refine T_bn ?_); (with_reducible refine T_then ?_); refine W_region ?_; (iterate 3 refine P1 T.ok rfl rfl rfl ?_); refine WL_nil ?_
   exact fun a ha => ⟨48 - (j + 1), by omega, j + 1, _, rfl, by rw [hsn]; exact hs, le9, by omega, rfl, ha.keep ⟨rfl, kI rfl (by rw [wr (by omega) (by omega)]; omega), trivial⟩⟩
  ·refine W_no (b := decide (((16 + j : Nat) : Int) < 64)) (decide_eq_false (by omega)) rfl ?_
   obtain rfl : j = 48 := by omega
   have hwl := schedB_len b 48
   have hsm : schedM b = schedB b 48 := rfl
   rw [hsm]
   clear hsm
   generalize schedB b 48 = ws at *
   refine W_exit ?_; (with_reducible refine T_tx ?_; with_reducible refine T_tx ?_); (with_reducible refine T_bx ?_); (with_reducible refine T_then ?_); refine W_seq ?_; refine W_region ?_
   refine WL_o rfl rfl (OpR_loadO T.ok 0 rfl hs rfl rfl (ldl_all rfl rfl (by rw [List.length_map, hwl])) ?_)
   refine WL_n rfl (OpR_storeW T.ok 0 rfl hs rfl rfl rfl rfl rfl (by rw [List.length_map, hwl]) rfl ints_one ?_)
   rintro g5 hs hqe; replace le9 := G.le.trans le9 hqe
   refine WL_nil ?_; (with_reducible refine T_then ?_)
   exact W_ret (retC T.ok 0 rfl hs rfl rfl (ldl_all rfl rfl (by rw [List.length_map, hwl])) (hs.ret rfl))
end Go.Proofs.YteohjgndanlldaaGreatDoor

/- The walks through package digest: a block is added. -/
namespace Go.Proofs.YteohjgndanlldaaGreatDoor
open Go Go.K
set_option maxRecDepth 10000
attribute [local irreducible] W WL OpR bitAnd bitOr bitXor bitClr bitNot shlI shrI
set_option maxHeartbeats 2000000

/-- What the table of package digest holds. -/
def RoundAt (g : G) : Prop := EP g 3 0 (roundK.map (Value.int .u32))
theorem RoundAt.mono {g g' : G} (h : RoundAt g) (hle : g.le g') : RoundAt g' := EP.mono h hle
theorem V8.cells_ints (v : V8) : v.cells = v.ints.map (Value.int .u32) := rfl





theorem wadd_c (g0 g : G) (L : List Ent) (bh : Nat) (h : V8) (v : Value) (b : List UInt8) (hs : St g0 g (.obj bh (.cells h.cells.toArray 193 (0, 0)) :: L)) (hrk : RoundAt g) (rs0 : Rs g v b) (hb : b.length = 64) :
  CallsIn Wd 0 Tryz.prog 129 #[.pointer (some ⟨bh, 0, none⟩), v] g.w
   (RetS g fun g' r => r = .tuple #[] ∧ St g0 g' (.obj bh (.cells (addM h b).cells.toArray 193 (0, 0)) :: L)) := by
 have le0 := G.le.refl g
 refine enter Tryz.func129 rfl Tryz.ntmps129 rfl ?_
 refine W_seq ?_; refine W_region ?_; refine P1 T.ok rfl rfl rfl ?_
 refine WL_o rfl rfl (OpR_ret cl144 allF rfl rfl rfl rfl rfl (sched_c v b _ rs0 hb) ?_); rintro g1 _ hf1 rfl; replace hs := hs.call hf1; have hqe := hf1.le; replace le0 := G.le.trans le0 hqe; replace rs0 := rs0.mono hqe
 replace hrk := hrk.mono hqe
 have hwl : (schedM b).length = 64 := schedB_len b 48
 unfold addM
 generalize schedM b = ws at *
 skip
 refine WL_o rfl rfl (OpR_alloc T.ok rfl hs rfl rfl ?_); clear hs; rintro bw g1 hs hqe; replace le0 := G.le.trans le0 hqe; replace rs0 := rs0.mono hqe
 replace hrk := hrk.mono hqe
 skip
 refine WL_n rfl (OpR_storeW T.ok 0 (us := ws.map (Value.int .u32)) rfl hs rfl rfl rfl rfl rfl (by rw [List.length_map, hwl]) (by rw [List.length_map, hwl]; rfl) ints_one ?_)
 rintro g5 hs hqe; replace le0 := G.le.trans le0 hqe; replace rs0 := rs0.mono hqe
 replace hrk := hrk.mono hqe
 refine WL_nil ?_; (with_reducible refine T_then ?_); refine W_seq ?_; refine W_region ?_; refine P1 T.ok rfl rfl rfl ?_; refine P1 T.ok rfl rfl rfl ?_; refine WL_o rfl rfl (OpR_loadO T.ok 1 rfl hs rfl rfl rfl ?_)
 refine WL_o rfl rfl (OpR_alloc T.ok rfl hs rfl rfl ?_); clear hs; rintro bv g1 hs hqe; replace le0 := G.le.trans le0 hqe; replace rs0 := rs0.mono hqe
 replace hrk := hrk.mono hqe
 skip
 refine WL_n rfl (OpR_storeO T.ok 0 rfl hs rfl rfl rfl rfl rfl rfl rfl rfl rfl ?_); replace hs := hs; rintro g1 hs hqe; replace le0 := G.le.trans le0 hqe; replace rs0 := rs0.mono hqe
 replace hrk := hrk.mono hqe
 refine WL_nil ?_; (with_reducible refine T_then ?_); refine W_seq ?_; refine W_seq ?_; refine W_region ?_
 refine WL_o rfl rfl (OpR_loadE T.ok 0 rfl hrk rfl (ldl_all rfl rfl rfl) ?_)
 refine P1 T.ok rfl rfl rfl ?_; refine WL_nil ?_; (with_reducible refine T_then ?_); refine W_block ?_
 have hst : St g0 g1 (.obj bv (.cells (vTo h ws 0).cells.toArray 193 (0, 0)) :: .obj bw (.cells (ws.map (Value.int .u32)).toArray 214 (0, 0)) :: .obj bh (.cells h.cells.toArray 193 (0, 0)) :: L) := hs
 replace hs := hst; clear hst
 have le8 := G.le.refl g1
 refine W_loop (fun m a' w => ∃ (i : Nat) (g2 : G), w = g2.w ∧ St g0 g2 (.obj bv (.cells (vTo h ws i).cells.toArray 193 (0, 0)) :: .obj bw (.cells (ws.map (Value.int .u32)).toArray 214 (0, 0)) :: .obj bh (.cells h.cells.toArray 193 (0, 0)) :: L) ∧ G.le g1 g2 ∧ i ≤ 64 ∧ m = 64 - i ∧
   Fr 97 [] [(0, .pointer (some ⟨bh, 0, none⟩)), (4, .pointer (some ⟨bw, 0, none⟩)), (5, .pointer (some ⟨bv, 0, none⟩)), (18, .agg (roundK.map (Value.int .u32)).toArray), (19, .int .i64 i)] a') 64
  (fun a' ha => ⟨0, g1, rfl, hs, le8, Nat.zero_le _, rfl, ha.keep (by (repeat (first | exact trivial | refine ⟨rfl, ?_⟩)))⟩) ?_
 clear hs le8 rs0 hrk
 rintro m a' _ ⟨i, g2, rfl, hs, le8, hi, rfl, ha'⟩
 revert a'
 (with_reducible refine T_wp ?_); refine W_seq ?_; refine W_region ?_; refine P1 T.ok rfl rfl rfl ?_; refine WL_nil ?_; (with_reducible refine T_then ?_); refine W_seq ?_
 by_cases hlt : i < 64
 ·refine W_yes (b := decide ((i : Int) < 64)) (decide_eq_true (by omega)) rfl ?_
  have hsn := vTo_succ h ws i
  generalize vTo h ws i = vv at *
  have hki : (roundK.map (Value.int .u32))[(i : Int).toNat]? = some (.int .u32 (roundK.getD i 0)) := by
   have hl := roundK_len
   rw [Int.toNat_natCast, List.getElem?_map, List.getD_eq_getElem?_getD, List.getElem?_eq_getElem (by omega)]; rfl
  generalize roundK.getD i 0 = kk at *
  refine W_skip ?_; (with_reducible refine T_then ?_); refine W_seq ?_; refine W_block ?_; refine W_seq ?_; refine W_region ?_; refine P1 T.ok rfl rfl rfl ?_
  refine WL_o rfl rfl (OpR_idxV T.ok rfl rfl rfl rfl rfl rfl rfl rfl (by omega) (by omega) hki ?_)
  refine P1 T.ok rfl rfl rfl ?_; refine P1 T.ok rfl rfl rfl ?_; refine WL_nil ?_; (with_reducible refine T_then ?_); refine W_seq ?_
  apply W_draw allF rfl (Fact.eq _ :: Fact.eq _ :: Fact.eq _ :: Fact.eq _ :: Fact.eq _ :: Fact.eq _ :: []) 6 [(4, 8), (5, 9)] rfl rfl
  ·refine D_cons (D_step2 (js := []) (by kernel_rfl) fun gd hf => ?_) ?_
   ·have hsd := hs.dr.call hf; have hfe := (G.le_dr _).trans hf.le
    refine QA_nil ?_
    (refine D_yes rfl ?_; refine OpR_idxA T.ok (q := 0) rfl rfl rfl rfl rfl rfl (by decide) ?_; refine ⟨_, rfl, Fr0.refl _, ?_⟩; exact rfl)
   refine D_s (js := [(0, 23)]) (by kernel_rfl) (fun _ hf => QA_eq rfl (QA_nil (DLo T.ok 0 rfl rfl (hs.dr.call hf) rfl rfl rfl rfl))) ?_
   refine D_cons (D_step2 (js := []) (by kernel_rfl) fun gd hf => ?_) ?_
   ·have hsd := hs.dr.call hf; have hfe := (G.le_dr _).trans hf.le
    refine QA_nil ?_
    (refine D_yes rfl ?_; refine OpR_idxA T.ok (q := 4) rfl rfl rfl rfl rfl rfl (by decide) ?_; refine ⟨_, rfl, Fr0.refl _, ?_⟩; exact rfl)
   refine D_s (js := [(2, 25)]) (by kernel_rfl) (fun _ hf => QA_eq rfl (QA_nil (DLo T.ok 0 rfl rfl (hs.dr.call hf) rfl rfl rfl rfl))) ?_
   refine D_s (js := [(1, 24), (1, 24)]) (by kernel_rfl) (fun _ _ => QA_eq rfl (QA_eq rfl (QA_nil (DPu T.ok rfl rfl rfl)))) ?_
   refine D_s (js := [(3, 26), (3, 26)]) (by kernel_rfl) (fun _ _ => QA_eq rfl (QA_eq rfl (QA_nil (DPu T.ok rfl rfl rfl)))) ?_
   exact D_nil
  intro g1 hf1; refine QA_eq rfl ?_; refine QA_eq rfl ?_; refine QA_nil ?_
  replace hs := hs.dr.call hf1; have hqe := (G.le_dr _).trans hf1.le; replace le8 := G.le.trans le8 hqe
  refine WL_nil ?_; (with_reducible refine T_then ?_); refine W_seq ?_
  apply W_draw allF rfl (Fact.eq _ :: Fact.eq _ :: Fact.eq _ :: (Fact.rs ([6, 11, 25] : List Int)) :: Fact.eq _ :: Fact.eq _ :: Fact.eq _ :: Fact.eq _ :: Fact.eq _ :: Fact.eq _ :: Fact.eq _ :: Fact.eq _ :: Fact.eq _ :: Fact.eq _ :: Fact.eq _ :: Fact.eq _ :: Fact.eq _ :: Fact.eq _ :: Fact.eq _ :: Fact.eq _ :: Fact.eq _ :: Fact.eq _ :: Fact.eq _ :: Fact.eq _ :: []) 24 [(23, 10)] rfl rfl
  ·refine D_cons (D_step2 (js := []) (by kernel_rfl) fun gd hf => ?_) ?_
   ·have hsd := hs.dr.call hf; have hfe := (G.le_dr _).trans hf.le
    refine QA_nil ?_
    (refine D_yes rfl ?_; refine OpR_idxA T.ok (q := 7) rfl rfl rfl rfl rfl rfl (by decide) ?_; refine ⟨_, rfl, Fr0.refl _, ?_⟩; exact rfl)
   refine D_s (js := [(0, 27)]) (by kernel_rfl) (fun _ hf => QA_eq rfl (QA_nil (DLo T.ok 0 rfl rfl (hs.dr.call hf) rfl rfl rfl rfl))) ?_
   refine D_s (js := []) (by kernel_rfl) (fun _ _ => QA_nil (DPu T.ok rfl rfl rfl)) ?_
   refine D_cons (D_step2 (js := []) (by kernel_rfl) fun gd hf => ?_) ?_
   ·have hsd := hs.dr.call hf; have hfe := (G.le_dr _).trans hf.le
    refine QA_nil ?_
    refine D_yes rfl ?_
    refine OpR_lit T.ok rfl (St.start gd) (vs := [(0, .int .i64 6), (1, .int .i64 11), (2, .int .i64 25)]) (cells := [.int .i64 6, .int .i64 11, .int .i64 25]) rfl rfl rfl rfl rfl rfl (by decide) (by decide) (by kernel_rfl) rfl ?_
    intro bb g' hs' hle
    obtain ⟨g2, e1, e2, e3⟩ := hs'.lit0 (α := Int) (RcL.ints _ [6, 11, 25])
    exact ⟨g2, e1, e2, e3⟩
   refine D_cons (D_step2 (js := [(2, 29), (3, 30)]) (by kernel_rfl) fun gd hf => ?_) ?_
   ·have hsd := hs.dr.call hf; have hfe := (G.le_dr _).trans hf.le
    refine QA_eq rfl ?_; refine QA_any fun v3 h3 => ?_
    refine QA_nil ?_
    refine D_yes rfl ?_
    refine OpR_ret cl145 allF rfl rfl rfl rfl rfl (mixed_c _ _ [6, 11, 25] _ h3) fun g' v h1 h2 => ⟨g', rfl, h1, ?_⟩
    exact h2
   refine D_s (js := [(1, 28), (4, 31)]) (by kernel_rfl) (fun _ _ => QA_eq rfl (QA_eq rfl (QA_nil (DPu T.ok rfl rfl rfl)))) ?_
   refine D_s (js := []) (by kernel_rfl) (fun _ _ => QA_nil (DPu T.ok rfl rfl rfl)) ?_
   refine D_cons (D_step2 (js := []) (by kernel_rfl) fun gd hf => ?_) ?_
   ·have hsd := hs.dr.call hf; have hfe := (G.le_dr _).trans hf.le
    refine QA_nil ?_
    (refine D_yes rfl ?_; refine OpR_idxA T.ok (q := 5) rfl rfl rfl rfl rfl rfl (by decide) ?_; refine ⟨_, rfl, Fr0.refl _, ?_⟩; exact rfl)
   refine D_s (js := [(7, 34)]) (by kernel_rfl) (fun _ hf => QA_eq rfl (QA_nil (DLo T.ok 0 rfl rfl (hs.dr.call hf) rfl rfl rfl rfl))) ?_
   refine D_s (js := [(6, 33), (8, 35)]) (by kernel_rfl) (fun _ _ => QA_eq rfl (QA_eq rfl (QA_nil (DPu2 T.ok rfl rfl rfl)))) ?_
   refine D_s (js := []) (by kernel_rfl) (fun _ _ => QA_nil (DPu T.ok rfl rfl rfl)) ?_
   refine D_s (js := [(10, 37)]) (by kernel_rfl) (fun _ _ => QA_eq rfl (QA_nil (DPu2 T.ok rfl rfl rfl))) ?_
   refine D_cons (D_step2 (js := []) (by kernel_rfl) fun gd hf => ?_) ?_
   ·have hsd := hs.dr.call hf; have hfe := (G.le_dr _).trans hf.le
    refine QA_nil ?_
    (refine D_yes rfl ?_; refine OpR_idxA T.ok (q := 6) rfl rfl rfl rfl rfl rfl (by decide) ?_; refine ⟨_, rfl, Fr0.refl _, ?_⟩; exact rfl)
   refine D_s (js := [(12, 39)]) (by kernel_rfl) (fun _ hf => QA_eq rfl (QA_nil (DLo T.ok 0 rfl rfl (hs.dr.call hf) rfl rfl rfl rfl))) ?_
   refine D_s (js := [(11, 38), (13, 40)]) (by kernel_rfl) (fun _ _ => QA_eq rfl (QA_eq rfl (QA_nil (DPu2 T.ok rfl rfl rfl)))) ?_
   refine D_s (js := [(9, 36), (14, 41)]) (by kernel_rfl) (fun _ _ => QA_eq rfl (QA_eq rfl (QA_nil (DPu2 T.ok rfl rfl rfl)))) ?_
   refine D_s (js := [(5, 32), (15, 42)]) (by kernel_rfl) (fun _ _ => QA_eq rfl (QA_eq rfl (QA_nil (DPu T.ok rfl rfl rfl)))) ?_
   refine D_s (js := []) (by kernel_rfl) (fun _ _ => QA_nil (DPu T.ok rfl rfl rfl)) ?_
   refine D_s (js := [(16, 43), (17, 44)]) (by kernel_rfl) (fun _ _ => QA_eq rfl (QA_eq rfl (QA_nil (DPu T.ok rfl rfl rfl)))) ?_
   refine D_s (js := []) (by kernel_rfl) (fun _ _ => QA_nil (DPu T.ok rfl rfl rfl)) ?_
   refine D_cons (D_step2 (js := [(19, 46)]) (by kernel_rfl) fun gd hf => ?_) ?_
   ·have hsd := hs.dr.call hf; have hfe := (G.le_dr _).trans hf.le
    refine QA_eq rfl ?_
    refine QA_nil ?_
    refine D_yes rfl ?_
    refine OpR_idxA T.ok (q := i) rfl rfl rfl rfl rfl rfl (by omega) ?_
    exact ⟨_, rfl, Fr0.refl _, rfl⟩
   refine D_cons (D_step2 (js := [(20, 47)]) (by kernel_rfl) fun gd hf => ?_) ?_
   ·have hsd := hs.dr.call hf; have hfe := (G.le_dr _).trans hf.le
    refine QA_eq rfl ?_
    refine QA_nil ?_
    refine D_yes rfl ?_
    refine OpR_loadI T.ok 1 (i) rfl hsd rfl rfl rfl rfl rfl (by omega) ?_
    exact ⟨_, rfl, Fr0.refl _, rfl⟩
   refine D_s (js := [(18, 45), (21, 48)]) (by kernel_rfl) (fun _ _ => QA_eq rfl (QA_eq rfl (QA_nil (DPu T.ok rfl rfl rfl)))) ?_
   refine D_s (js := [(22, 49), (22, 49)]) (by kernel_rfl) (fun _ _ => QA_eq rfl (QA_eq rfl (QA_nil (DPu T.ok rfl rfl rfl)))) ?_
   exact D_nil
  intro g1 hf1; refine QA_eq rfl ?_; refine QA_nil ?_
  replace hs := hs.dr.call hf1; have hqe := (G.le_dr _).trans hf1.le; replace le8 := G.le.trans le8 hqe
  refine WL_nil ?_; (with_reducible refine T_then ?_); refine W_seq ?_
  apply W_draw allF rfl (Fact.eq _ :: (Fact.rs ([2, 13, 22] : List Int)) :: Fact.eq _ :: Fact.eq _ :: Fact.eq _ :: Fact.eq _ :: Fact.eq _ :: Fact.eq _ :: Fact.eq _ :: Fact.eq _ :: Fact.eq _ :: Fact.eq _ :: Fact.eq _ :: Fact.eq _ :: Fact.eq _ :: Fact.eq _ :: Fact.eq _ :: Fact.eq _ :: Fact.eq _ :: Fact.eq _ :: []) 20 [(19, 11)] rfl rfl
  ·refine D_s (js := []) (by kernel_rfl) (fun _ _ => QA_nil (DPu T.ok rfl rfl rfl)) ?_
   refine D_cons (D_step2 (js := []) (by kernel_rfl) fun gd hf => ?_) ?_
   ·have hsd := hs.dr.call hf; have hfe := (G.le_dr _).trans hf.le
    refine QA_nil ?_
    refine D_yes rfl ?_
    refine OpR_lit T.ok rfl (St.start gd) (vs := [(0, .int .i64 2), (1, .int .i64 13), (2, .int .i64 22)]) (cells := [.int .i64 2, .int .i64 13, .int .i64 22]) rfl rfl rfl rfl rfl rfl (by decide) (by decide) (by kernel_rfl) rfl ?_
    intro bb g' hs' hle
    obtain ⟨g2, e1, e2, e3⟩ := hs'.lit0 (α := Int) (RcL.ints _ [2, 13, 22])
    exact ⟨g2, e1, e2, e3⟩
   refine D_cons (D_step2 (js := [(0, 50), (1, 51)]) (by kernel_rfl) fun gd hf => ?_) ?_
   ·have hsd := hs.dr.call hf; have hfe := (G.le_dr _).trans hf.le
    refine QA_eq rfl ?_; refine QA_any fun v1 h1 => ?_
    refine QA_nil ?_
    refine D_yes rfl ?_
    refine OpR_ret cl145 allF rfl rfl rfl rfl rfl (mixed_c _ _ [2, 13, 22] _ h1) fun g' v h1 h2 => ⟨g', rfl, h1, ?_⟩
    exact h2
   refine D_s (js := []) (by kernel_rfl) (fun _ _ => QA_nil (DPu T.ok rfl rfl rfl)) ?_
   refine D_cons (D_step2 (js := []) (by kernel_rfl) fun gd hf => ?_) ?_
   ·have hsd := hs.dr.call hf; have hfe := (G.le_dr _).trans hf.le
    refine QA_nil ?_
    (refine D_yes rfl ?_; refine OpR_idxA T.ok (q := 1) rfl rfl rfl rfl rfl rfl (by decide) ?_; refine ⟨_, rfl, Fr0.refl _, ?_⟩; exact rfl)
   refine D_s (js := [(4, 54)]) (by kernel_rfl) (fun _ hf => QA_eq rfl (QA_nil (DLo T.ok 0 rfl rfl (hs.dr.call hf) rfl rfl rfl rfl))) ?_
   refine D_s (js := [(3, 53), (5, 55)]) (by kernel_rfl) (fun _ _ => QA_eq rfl (QA_eq rfl (QA_nil (DPu2 T.ok rfl rfl rfl)))) ?_
   refine D_s (js := []) (by kernel_rfl) (fun _ _ => QA_nil (DPu T.ok rfl rfl rfl)) ?_
   refine D_cons (D_step2 (js := []) (by kernel_rfl) fun gd hf => ?_) ?_
   ·have hsd := hs.dr.call hf; have hfe := (G.le_dr _).trans hf.le
    refine QA_nil ?_
    (refine D_yes rfl ?_; refine OpR_idxA T.ok (q := 2) rfl rfl rfl rfl rfl rfl (by decide) ?_; refine ⟨_, rfl, Fr0.refl _, ?_⟩; exact rfl)
   refine D_s (js := [(8, 58)]) (by kernel_rfl) (fun _ hf => QA_eq rfl (QA_nil (DLo T.ok 0 rfl rfl (hs.dr.call hf) rfl rfl rfl rfl))) ?_
   refine D_s (js := [(7, 57), (9, 59)]) (by kernel_rfl) (fun _ _ => QA_eq rfl (QA_eq rfl (QA_nil (DPu2 T.ok rfl rfl rfl)))) ?_
   refine D_s (js := [(6, 56), (10, 60)]) (by kernel_rfl) (fun _ _ => QA_eq rfl (QA_eq rfl (QA_nil (DPu2 T.ok rfl rfl rfl)))) ?_
   refine D_cons (D_step2 (js := []) (by kernel_rfl) fun gd hf => ?_) ?_
   ·have hsd := hs.dr.call hf; have hfe := (G.le_dr _).trans hf.le
    refine QA_nil ?_
    (refine D_yes rfl ?_; refine OpR_idxA T.ok (q := 1) rfl rfl rfl rfl rfl rfl (by decide) ?_; refine ⟨_, rfl, Fr0.refl _, ?_⟩; exact rfl)
   refine D_s (js := [(12, 62)]) (by kernel_rfl) (fun _ hf => QA_eq rfl (QA_nil (DLo T.ok 0 rfl rfl (hs.dr.call hf) rfl rfl rfl rfl))) ?_
   refine D_cons (D_step2 (js := []) (by kernel_rfl) fun gd hf => ?_) ?_
   ·have hsd := hs.dr.call hf; have hfe := (G.le_dr _).trans hf.le
    refine QA_nil ?_
    (refine D_yes rfl ?_; refine OpR_idxA T.ok (q := 2) rfl rfl rfl rfl rfl rfl (by decide) ?_; refine ⟨_, rfl, Fr0.refl _, ?_⟩; exact rfl)
   refine D_s (js := [(14, 64)]) (by kernel_rfl) (fun _ hf => QA_eq rfl (QA_nil (DLo T.ok 0 rfl rfl (hs.dr.call hf) rfl rfl rfl rfl))) ?_
   refine D_s (js := [(13, 63), (15, 65)]) (by kernel_rfl) (fun _ _ => QA_eq rfl (QA_eq rfl (QA_nil (DPu2 T.ok rfl rfl rfl)))) ?_
   refine D_s (js := [(11, 61), (16, 66)]) (by kernel_rfl) (fun _ _ => QA_eq rfl (QA_eq rfl (QA_nil (DPu2 T.ok rfl rfl rfl)))) ?_
   refine D_s (js := [(2, 52), (17, 67)]) (by kernel_rfl) (fun _ _ => QA_eq rfl (QA_eq rfl (QA_nil (DPu T.ok rfl rfl rfl)))) ?_
   refine D_s (js := [(18, 68), (18, 68)]) (by kernel_rfl) (fun _ _ => QA_eq rfl (QA_eq rfl (QA_nil (DPu T.ok rfl rfl rfl)))) ?_
   exact D_nil
  intro g1 hf1; refine QA_eq rfl ?_; refine QA_nil ?_
  replace hs := hs.dr.call hf1; have hqe := (G.le_dr _).trans hf1.le; replace le8 := G.le.trans le8 hqe
  refine WL_nil ?_; (with_reducible refine T_then ?_); refine W_seq ?_
  apply W_draw allF rfl (Fact.eq _ :: Fact.eq _ :: []) 2 [(0, 69), (1, 70)] rfl rfl
  ·refine D_cons (D_step2 (js := []) (by kernel_rfl) fun gd hf => ?_) ?_
   ·have hsd := hs.dr.call hf; have hfe := (G.le_dr _).trans hf.le
    refine QA_nil ?_
    refine D_yes rfl ?_
    refine OpR_cutA T.ok (a := 1) (c := 8) (ho := rfl) rfl rfl rfl rfl ⟨_, rfl⟩ rfl (by decide) (by decide) ?_
    exact ⟨_, rfl, Fr0.refl _, rfl⟩
   refine D_cons (D_step2 (js := []) (by kernel_rfl) fun gd hf => ?_) ?_
   ·have hsd := hs.dr.call hf; have hfe := (G.le_dr _).trans hf.le
    refine QA_nil ?_
    refine D_yes rfl ?_
    refine OpR_cutA T.ok (a := 0) (c := 7) (ho := rfl) rfl rfl rfl rfl rfl ⟨_, rfl⟩ (by decide) (by decide) ?_
    exact ⟨_, rfl, Fr0.refl _, rfl⟩
   exact D_nil
  intro g1 hf1; refine QA_eq rfl ?_; refine QA_eq rfl ?_; refine QA_nil ?_
  replace hs := hs.dr.call hf1; have hqe := (G.le_dr _).trans hf1.le; replace le8 := G.le.trans le8 hqe
  refine WL_o rfl rfl (OpR_copyO T.ok 0 (off := 1) (m := 7) rfl hs rfl rfl rfl rfl rfl rfl rfl (by show 1 + 7 ≤ 8; decide) (CopySrc.src (hs.srcObj (i := 0) (off := 0) (n := 7) rfl (by show 0 + 7 ≤ 8; decide)) (by simp [V8.cells, Value.oneCell'])) (q := 7) rfl rfl ?_)
  rintro g5 hs hqe; replace le8 := G.le.trans le8 hqe
  refine WL_nil ?_; (with_reducible refine T_then ?_); refine W_region ?_; (iterate 3 refine P1 T.ok rfl rfl rfl ?_)
  refine WL_o rfl rfl (OpR_idxA T.ok (q := 4) rfl rfl rfl rfl rfl rfl (by decide) ?_)
  refine WL_o rfl rfl (OpR_loadO T.ok 0 rfl hs rfl rfl rfl ?_); refine P1 T.ok rfl rfl rfl ?_; refine P1 T.ok rfl rfl rfl ?_
  refine WL_o rfl rfl (OpR_idxA T.ok (q := 0) rfl rfl rfl rfl rfl rfl (by decide) ?_)
  skip
  refine WL_n rfl (OpR_storeO T.ok 0 rfl hs rfl rfl rfl rfl rfl rfl rfl rfl rfl ?_); replace hs := hs; rintro g1 hs hqe; replace le8 := G.le.trans le8 hqe
  skip
  refine WL_o rfl rfl (OpR_idxA T.ok (q := 4) rfl rfl rfl rfl rfl rfl (by decide) ?_)
  skip
  refine WL_n rfl (OpR_storeO T.ok 0 rfl hs rfl rfl rfl rfl rfl rfl rfl rfl rfl ?_); replace hs := hs; rintro g1 hs hqe; replace le8 := G.le.trans le8 hqe
  refine WL_nil ?_; (with_reducible refine T_bn ?_); (with_reducible refine T_then ?_); refine W_region ?_; refine P1 T.ok rfl rfl rfl ?_; refine P1 T.ok rfl rfl rfl ?_; refine WL_nil ?_
  exact fun a ha => ⟨64 - (i + 1), by omega, i + 1, _, rfl, by rw [hsn]; exact hs, le8, by omega, rfl, ha.keep ⟨rfl, rfl, rfl, rfl, kI rfl (by rw [wr (by omega) (by omega)]; omega), trivial⟩⟩
 ·refine W_no (b := decide ((i : Int) < 64)) (decide_eq_false (by omega)) rfl ?_
  obtain rfl : i = 64 := by omega
  generalize vTo h ws 64 = vv at *
  have hst : St g0 g2 (.obj bv (.cells (vv.ints.map (Value.int .u32)).toArray 193 (0, 0)) :: .obj bw (.cells (ws.map (Value.int .u32)).toArray 214 (0, 0)) :: .obj bh (.cells ((sumTo h vv 0).map (Value.int .u32)).toArray 193 (0, 0)) :: L) := hs
  replace hs := hst; clear hst
  refine W_exit ?_; (with_reducible refine T_tx ?_; with_reducible refine T_tx ?_); (with_reducible refine T_bx ?_); (with_reducible refine T_then ?_); refine W_seq ?_; refine W_region ?_; refine P1 T.ok rfl rfl rfl ?_; refine WL_nil ?_; (with_reducible refine T_then ?_); refine W_block ?_
  have le9 := G.le.refl g2
  refine W_loop (fun m a' w => ∃ (j : Nat) (g3 : G), w = g3.w ∧ St g0 g3 (.obj bv (.cells (vv.ints.map (Value.int .u32)).toArray 193 (0, 0)) :: .obj bw (.cells (ws.map (Value.int .u32)).toArray 214 (0, 0)) :: .obj bh (.cells ((sumTo h vv j).map (Value.int .u32)).toArray 193 (0, 0)) :: L) ∧ G.le g2 g3 ∧ j ≤ 8 ∧ m = 8 - j ∧
    Fr 97 [] [(0, .pointer (some ⟨bh, 0, none⟩)), (5, .pointer (some ⟨bv, 0, none⟩)), (82, .int .i64 j)] a') 8
   (fun a' ha => ⟨0, g2, rfl, hs, le9, Nat.zero_le _, rfl, ha.keep (by (repeat (first | exact trivial | refine ⟨rfl, ?_⟩)))⟩) ?_
  clear hs le9
  rintro m a' _ ⟨j, g3, rfl, hs, le9, hj, rfl, ha'⟩
  have hvl : vv.ints.length = 8 := rfl
  revert a'
  (with_reducible refine T_wp ?_); refine W_seq ?_; refine W_region ?_; refine P1 T.ok rfl rfl rfl ?_; refine WL_nil ?_; (with_reducible refine T_then ?_); refine W_seq ?_
  by_cases hlj : j < 8
  ·refine W_yes (b := decide ((j : Int) < 8)) (decide_eq_true (by omega)) rfl ?_
   have hsn := sumTo_succ h vv j
   have hsl := sumTo_len h vv j
   generalize sumTo h vv j = sm at *
   generalize vv.ints = vi at *
   refine W_skip ?_; (with_reducible refine T_then ?_); refine W_seq ?_; refine W_block ?_; refine W_seq ?_; refine W_region ?_; refine P1 T.ok rfl rfl rfl ?_; refine P1 T.ok rfl rfl rfl ?_; refine WL_nil ?_; (with_reducible refine T_then ?_)
   apply W_draw allF rfl (Fact.eq _ :: Fact.eq _ :: Fact.eq _ :: Fact.eq _ :: Fact.eq _ :: Fact.eq _ :: Fact.eq _ :: Fact.eq _ :: Fact.eq _ :: Fact.eq _ :: Fact.eq _ :: []) 11 [(8, 93), (10, 95)] rfl rfl
   ·refine D_s (js := []) (by kernel_rfl) (fun _ _ => QA_nil (DPu T.ok rfl rfl rfl)) ?_
    refine D_s (js := []) (by kernel_rfl) (fun _ _ => QA_nil (DPu T.ok rfl rfl rfl)) ?_
    refine D_s (js := [(0, 85)]) (by kernel_rfl) (fun _ _ => QA_eq rfl (QA_nil (DPu T.ok rfl rfl rfl))) ?_
    refine D_cons (D_step2 (js := [(2, 87), (1, 86)]) (by kernel_rfl) fun gd hf => ?_) ?_
    ·have hsd := hs.dr.call hf; have hfe := (G.le_dr _).trans hf.le
     refine QA_eq rfl ?_; refine QA_eq rfl ?_
     refine QA_nil ?_
     refine D_yes rfl ?_
     refine OpR_idxA T.ok (q := j) rfl rfl rfl rfl rfl rfl (by omega) ?_
     exact ⟨_, rfl, Fr0.refl _, rfl⟩
    refine D_cons (D_step2 (js := [(3, 88)]) (by kernel_rfl) fun gd hf => ?_) ?_
    ·have hsd := hs.dr.call hf; have hfe := (G.le_dr _).trans hf.le
     refine QA_eq rfl ?_
     refine QA_nil ?_
     refine D_yes rfl ?_
     refine OpR_loadI T.ok 2 (j) rfl hsd rfl rfl rfl rfl rfl (by omega) ?_
     exact ⟨_, rfl, Fr0.refl _, rfl⟩
    refine D_s (js := []) (by kernel_rfl) (fun _ _ => QA_nil (DPu T.ok rfl rfl rfl)) ?_
    refine D_cons (D_step2 (js := [(5, 90)]) (by kernel_rfl) fun gd hf => ?_) ?_
    ·have hsd := hs.dr.call hf; have hfe := (G.le_dr _).trans hf.le
     refine QA_eq rfl ?_
     refine QA_nil ?_
     refine D_yes rfl ?_
     refine OpR_idxA T.ok (q := j) rfl rfl rfl rfl rfl rfl (by omega) ?_
     exact ⟨_, rfl, Fr0.refl _, rfl⟩
    refine D_cons (D_step2 (js := [(6, 91)]) (by kernel_rfl) fun gd hf => ?_) ?_
    ·have hsd := hs.dr.call hf; have hfe := (G.le_dr _).trans hf.le
     refine QA_eq rfl ?_
     refine QA_nil ?_
     refine D_yes rfl ?_
     refine OpR_loadI T.ok 0 (j) rfl hsd rfl rfl rfl rfl rfl (by omega) ?_
     exact ⟨_, rfl, Fr0.refl _, rfl⟩
    refine D_s (js := [(4, 89), (7, 92)]) (by kernel_rfl) (fun _ _ => QA_eq rfl (QA_eq rfl (QA_nil (DPu T.ok rfl rfl rfl)))) ?_
    refine D_s (js := [(0, 85)]) (by kernel_rfl) (fun _ _ => QA_eq rfl (QA_nil (DPu T.ok rfl rfl rfl))) ?_
    refine D_cons (D_step2 (js := [(9, 94), (1, 86), (1, 86)]) (by kernel_rfl) fun gd hf => ?_) ?_
    ·have hsd := hs.dr.call hf; have hfe := (G.le_dr _).trans hf.le
     refine QA_eq rfl ?_; refine QA_eq rfl ?_; refine QA_eq rfl ?_
     refine QA_nil ?_
     refine D_yes rfl ?_
     refine OpR_idxA T.ok (q := j) rfl rfl rfl rfl rfl rfl (by omega) ?_
     exact ⟨_, rfl, Fr0.refl _, rfl⟩
    exact D_nil
   intro g1 hf1; refine QA_eq rfl ?_; refine QA_eq rfl ?_; refine QA_nil ?_
   replace hs := hs.dr.call hf1; have hqe := (G.le_dr _).trans hf1.le; replace le9 := G.le.trans le9 hqe
   skip
   refine WL_n rfl (OpR_storeI T.ok 2 j rfl hs rfl rfl rfl rfl rfl rfl (by omega) ?_)
   rintro g5 hs hqe; replace le9 := G.le.trans le9 hqe
   refine WL_nil ?_; (with_reducible refine T_bn ?_); (with_reducible refine T_then ?_); refine W_region ?_; refine P1 T.ok rfl rfl rfl ?_; refine P1 T.ok rfl rfl rfl ?_; refine WL_nil ?_
   exact fun a ha => ⟨8 - (j + 1), by omega, j + 1, _, rfl, by rw [hsn]; exact hs, le9, by omega, rfl, ha.keep ⟨rfl, rfl, kI rfl (by rw [wr (by omega) (by omega)]; omega), trivial⟩⟩
  ·refine W_no (b := decide ((j : Int) < 8)) (decide_eq_false (by omega)) rfl ?_
   obtain rfl : j = 8 := by omega
   rw [sumTo_all] at hs
   refine W_exit ?_; (with_reducible refine T_tx ?_; with_reducible refine T_tx ?_); (with_reducible refine T_bx ?_)
   exact end0 rfl (RetS.intro (le0.trans (le8.trans le9)) ⟨rfl, (hs.drop 0).drop 0⟩)
end Go.Proofs.YteohjgndanlldaaGreatDoor

/- The walks through package digest: the bytes of the words; chunks. -/
namespace Go.Proofs.YteohjgndanlldaaGreatDoor
open Go Go.K
set_option maxRecDepth 10000
attribute [local irreducible] W WL OpR bitAnd bitOr bitXor bitClr bitNot shlI shrI
set_option maxHeartbeats 2000000

theorem digest_c (h : V8) (g : G) : CallsIn Wd 0 Tryz.prog 130 #[.agg h.cells.toArray] g.w (Ret g fun _ r => r = .string (bs (digestM h))) := by
 have hs := St.start g
 have le0 := G.le.refl g
 refine enter Tryz.func130 rfl Tryz.ntmps130 rfl ?_
 refine W_seq ?_; refine W_region ?_
 refine WL_o rfl rfl (OpR_box rfl hs rfl rfl ?_); clear hs; rintro bx g1 hs hqe; replace le0 := G.le.trans le0 hqe
 refine P1 T.ok rfl rfl rfl ?_; refine WL_nil ?_; (with_reducible refine T_then ?_); refine W_seq ?_; refine W_region ?_
 refine WL_o rfl rfl (OpR_alloc T.ok rfl hs rfl rfl ?_); clear hs; rintro bo g1 hs hqe; replace le0 := G.le.trans le0 hqe
 refine WL_nil ?_; (with_reducible refine T_then ?_); refine W_seq ?_; refine W_seq ?_; refine W_region ?_; refine WL_o rfl rfl (OpR_loadO T.ok 1 rfl hs rfl rfl rfl ?_); refine P1 T.ok rfl rfl rfl ?_; refine WL_nil ?_; (with_reducible refine T_then ?_); refine W_block ?_
 have hst : St g g1 [.obj bo (.cells ((dTo h 0).map (Value.int .u8)).toArray 217 (0, 0)), .obj bx (.cells h.cells.toArray 193 (0, 0))] := hs
 replace hs := hst; clear hst
 have hcl : h.cells.toArray = (h.ints.map (Value.int .u32)).toArray := rfl
 have hil : h.ints.length = 8 := rfl
 unfold digestM
 have le8 := G.le.refl g1
 refine W_loop (fun m a' w => ∃ (i : Nat) (g2 : G), w = g2.w ∧ St g g2 [.obj bo (.cells ((dTo h (4 * i)).map (Value.int .u8)).toArray 217 (0, 0)), .obj bx (.cells h.cells.toArray 193 (0, 0))] ∧ G.le g1 g2 ∧ i ≤ 8 ∧ m = 8 - i ∧
   Fr 30 [] [(3, .pointer (some ⟨bo, 0, none⟩)), (7, .agg (h.ints.map (Value.int .u32)).toArray), (8, .int .i64 i)] a') 8
  (fun a' ha => ⟨0, g1, rfl, hs, le8, Nat.zero_le _, rfl, ha.keep (by (repeat (first | exact trivial | refine ⟨rfl, ?_⟩)))⟩) ?_
 clear hs le8
 rintro m a' _ ⟨i, g2, rfl, hs, le8, hi, rfl, ha'⟩
 revert a'
 (with_reducible refine T_wp ?_); refine W_seq ?_; refine W_region ?_; refine P1 T.ok rfl rfl rfl ?_; refine WL_nil ?_; (with_reducible refine T_then ?_); refine W_seq ?_
 by_cases hlt : i < 8
 ·refine W_yes (b := decide ((i : Int) < 8)) (decide_eq_true (by omega)) rfl ?_
  have hki : (h.ints.map (Value.int .u32))[(i : Int).toNat]? = some (.int .u32 (h.ints.getD i 0)) := by
   rw [Int.toNat_natCast, List.getElem?_map, List.getD_eq_getElem?_getD, List.getElem?_eq_getElem (by omega)]; rfl
  refine W_skip ?_; (with_reducible refine T_then ?_); refine W_seq ?_; refine W_block ?_; refine W_seq ?_; refine W_region ?_; refine P1 T.ok rfl rfl rfl ?_
  refine WL_o rfl rfl (OpR_idxV T.ok rfl rfl rfl rfl rfl rfl rfl rfl (by omega) (by omega) hki ?_)
  refine P1 T.ok rfl rfl rfl ?_; refine P1 T.ok rfl rfl rfl ?_; refine WL_nil ?_; (with_reducible refine T_then ?_); refine W_seq ?_; refine W_region ?_; refine P1 T.ok rfl rfl rfl ?_; refine WL_nil ?_; (with_reducible refine T_then ?_); refine W_block ?_
  have le9 := G.le.refl g2
  refine W_loop (fun m a' w => ∃ (k : Nat) (g3 : G), w = g3.w ∧ St g g3 [.obj bo (.cells ((dTo h (4 * i + k)).map (Value.int .u8)).toArray 217 (0, 0)), .obj bx (.cells h.cells.toArray 193 (0, 0))] ∧ G.le g2 g3 ∧ k ≤ 4 ∧ m = 4 - k ∧
    Fr 30 [] [(3, .pointer (some ⟨bo, 0, none⟩)), (7, .agg (h.ints.map (Value.int .u32)).toArray), (8, .int .i64 i), (4, .int .i64 i), (5, .int .u32 (h.ints.getD i 0)), (12, .int .i64 k)] a') 4
   (fun a' ha => ⟨0, g2, rfl, hs, le9, Nat.zero_le _, rfl, ha.keep (by (repeat (first | exact trivial | refine ⟨rfl, ?_⟩)))⟩) ?_
  clear hs le9
  rintro m a' _ ⟨k, g3, rfl, hs, le9, hk, rfl, ha'⟩
  revert a'
  (with_reducible refine T_wp ?_); refine W_seq ?_; refine W_region ?_; refine P1 T.ok rfl rfl rfl ?_; refine WL_nil ?_; (with_reducible refine T_then ?_); refine W_seq ?_
  by_cases hlk : k < 4
  ·refine W_yes (b := decide ((k : Int) < 4)) (decide_eq_true (by omega)) rfl ?_
   have hsn := dTo_succ h (4 * i + k)
   have hdl := dTo_len h (4 * i + k)
   unfold dByte at hsn
   rw [show (4 * i + k) / 4 = i from by omega, show (4 * i + k) % 4 = k from by omega] at hsn
   generalize dTo h (4 * i + k) = out at *
   generalize h.ints.getD i 0 = xw at *
   have hw8 : IntKind.i64.wrap (8 * (k : Int)) = 8 * k := wr (by omega) (by omega)
   have hw4 : IntKind.i64.wrap (4 * (i : Int)) = 4 * i := wr (by omega) (by omega)
   refine W_skip ?_; (with_reducible refine T_then ?_); refine W_seq ?_; refine W_block ?_; refine W_seq ?_; refine W_region ?_; refine P1 T.ok rfl rfl rfl ?_; refine P1 T.ok rfl rfl rfl ?_; refine WL_nil ?_; (with_reducible refine T_then ?_); refine W_region ?_; (iterate 8 refine P1 T.ok rfl rfl rfl ?_)
   refine WL_re (.int .i64 ((24 - 8 * k : Nat) : Int)) (t := 22) rfl (congrArg (Value.int .i64) (by rw [hw8, wr (by omega) (by omega)]; omega)) ?_
   refine WL_o rfl rfl (OpR_shrV rfl rfl rfl (by omega) ?_)
   rw [Int.toNat_natCast]
   refine P2 T.ok rfl rfl rfl ?_
   refine WL_re (.int .i64 ((4 * i + k : Nat) : Int)) (t := 18) rfl (congrArg (Value.int .i64) (by rw [hw4, wr (by omega) (by omega)]; omega)) ?_
   refine WL_o rfl rfl (OpR_idxA T.ok (q := 4 * i + k) rfl rfl rfl rfl rfl rfl (by omega) ?_)
   refine WL_n rfl (OpR_storeI T.ok 0 (4 * i + k) rfl hs rfl rfl rfl rfl rfl rfl (by omega) ?_)
   rintro g5 hs hqe; replace le9 := G.le.trans le9 hqe
   refine WL_nil ?_; (with_reducible refine T_bn ?_); (with_reducible refine T_then ?_); refine W_region ?_; refine P1 T.ok rfl rfl rfl ?_; refine P1 T.ok rfl rfl rfl ?_; refine WL_nil ?_
   exact fun a ha => ⟨4 - (k + 1), by omega, k + 1, _, rfl, by rw [show 4 * i + (k + 1) = 4 * i + k + 1 from rfl, hsn]; exact hs, le9, by omega, rfl, ha.keep ⟨rfl, rfl, rfl, rfl, rfl, kI rfl (by rw [wr (by omega) (by omega)]; omega), trivial⟩⟩
  ·refine W_no (b := decide ((k : Int) < 4)) (decide_eq_false (by omega)) rfl ?_
   obtain rfl : k = 4 := by omega
   refine W_exit ?_; (with_reducible refine T_tx ?_; with_reducible refine T_tx ?_); (with_reducible refine T_bx ?_); (with_reducible refine T_bn ?_); (with_reducible refine T_then ?_); refine W_region ?_; refine P1 T.ok rfl rfl rfl ?_; refine P1 T.ok rfl rfl rfl ?_; refine WL_nil ?_
   exact fun a ha => ⟨8 - (i + 1), by omega, i + 1, _, rfl, by rw [show 4 * (i + 1) = 4 * i + 4 from by omega]; exact hs, le8.trans le9, by omega, rfl, ha.keep ⟨rfl, rfl, kI rfl (by rw [wr (by omega) (by omega)]; omega), trivial⟩⟩
 ·refine W_no (b := decide ((i : Int) < 8)) (decide_eq_false (by omega)) rfl ?_
  obtain rfl : i = 8 := by omega
  have hdl := dTo_len h (4 * 8)
  generalize dTo h (4 * 8) = out at *
  have hsrc := hs.srcObj (i := 0) (off := 0) (n := 32) rfl (by rw [List.length_map, hdl]; decide)
  rw [List.drop_zero, List.take_of_length_le (by rw [List.length_map, hdl]; decide)] at hsrc
  refine W_exit ?_; (with_reducible refine T_tx ?_; with_reducible refine T_tx ?_); (with_reducible refine T_bx ?_); (with_reducible refine T_then ?_); refine W_seq ?_; refine W_region ?_
  refine WL_o rfl rfl (OpR_cutA T.ok (a := 0) (c := 32) (ho := rfl) rfl rfl rfl rfl rfl rfl (by decide) (by decide) ?_)
  refine WL_o rfl rfl (OpR_bytesStr T.ok (ns := out) rfl rfl rfl rfl rfl rfl rfl rfl hsrc ?_)
  refine P1 T.ok rfl rfl rfl ?_; refine WL_nil ?_; (with_reducible refine T_then ?_)
  exact W_ret (ret1 rfl rfl (hs.ret rfl))
end Go.Proofs.YteohjgndanlldaaGreatDoor

/- The walks through package digest: chunks. -/
namespace Go.Proofs.YteohjgndanlldaaGreatDoor
open Go Go.K
set_option maxRecDepth 10000
attribute [local irreducible] W WL OpR bitAnd bitOr bitXor bitClr bitNot shlI shrI
set_option maxHeartbeats 2000000

theorem range_split {n j : Nat} (h : j < n) : ∃ rest, List.range n = List.range j ++ j :: rest := by
 refine ⟨(List.range n).drop (j + 1), ?_⟩
 have h1 := List.take_append_drop j (List.range n)
 rw [List.take_range, Nat.min_eq_left (by omega), List.drop_eq_getElem_cons (by simpa using h), List.getElem_range] at h1
 exact h1.symm

theorem chunkSeq_c (b1 b2 bk po n cap : Nat) (g : G) (ep0 : EP g b1 0 [.slice (some ⟨bk, po, none⟩) (64 * n) cap]) (ep1 : EP g b2 0 [.int .i64 64]) (hn : 64 * n ≤ cap) (hc : cap ≤ maxLen) :
  SeqC Tryz.prog 143 #[.pointer (some ⟨b1, 0, none⟩), .pointer (some ⟨b2, 0, none⟩)] (fun j : Nat => [.slice (some ⟨bk, po + 64 * j, none⟩) 64 64]) (List.range n) g := by
 unfold maxLen at hc
 intro g1 hle yv J Jx hJ hJx hy hJ0
 have le0 := G.le.refl g1
 have ep0c := ep0.mono hle; have ep1c := ep1.mono hle
 refine enter Tryz.func143 rfl Tryz.ntmps143 rfl ?_
 refine W_seq ?_; refine W_region ?_; refine P1 T.ok rfl rfl rfl ?_; refine WL_nil ?_; (with_reducible refine T_then ?_); refine W_block ?_
 refine W_loop (fun m a' w => ∃ (j : Nat) (g2 : G), w = g2.w ∧ G.le g1 g2 ∧ j ≤ n ∧ m = n - j ∧ J (List.range j) g2 ∧
   Fr 31 [] [(0, yv), (1, .pointer (some ⟨b1, 0, none⟩)), (2, .pointer (some ⟨b2, 0, none⟩)), (4, .int .i64 ((64 * j : Nat) : Int))] a') n
  (fun a' ha => ⟨0, g1, rfl, le0, Nat.zero_le _, rfl, hJ0, ha.keep (by (repeat (first | exact trivial | refine ⟨rfl, ?_⟩)))⟩) ?_
 clear ep0 ep1 le0
 rintro m a' _ ⟨j, g2, rfl, le0, hj, rfl, hJp, ha'⟩
 have ep0 := ep0c.mono le0; have ep1 := ep1c.mono le0
 have hs := St.start g2
 revert a'
 (with_reducible refine T_wp ?_); refine W_seq ?_; refine W_seq ?_; refine W_region ?_; refine P1 T.ok rfl rfl rfl ?_; refine WL_o rfl rfl (OpR_loadE T.ok 0 rfl ep0 rfl rfl ?_); refine P1 T.ok rfl rfl rfl ?_; refine P1 T.ok rfl rfl rfl ?_; refine WL_nil ?_; (with_reducible refine T_then ?_)
 by_cases hlt : j < n
 ·refine W_yes (b := decide (((64 * j : Nat) : Int) < ((64 * n : Nat) : Int))) (decide_eq_true (by omega)) rfl ?_
  refine W_skip ?_; (with_reducible refine T_then ?_); refine W_seq ?_; refine W_block ?_; refine W_seq ?_
  apply W_draw allF rfl (Fact.eq _ :: Fact.eq _ :: Fact.eq _ :: Fact.eq _ :: Fact.eq _ :: Fact.eq _ :: Fact.eq _ :: []) 7 [(6, 5)] rfl rfl
  ·refine D_s (js := []) (by kernel_rfl) (fun _ hf => QA_nil (DLe T.ok 0 rfl rfl (ep1.mono ((G.le_dr _).trans hf.le)) rfl rfl rfl)) ?_
   refine D_s (js := []) (by kernel_rfl) (fun _ hf => QA_nil (DLe T.ok 0 rfl rfl (ep0.mono ((G.le_dr _).trans hf.le)) rfl rfl rfl)) ?_
   refine D_s (js := []) (by kernel_rfl) (fun _ _ => QA_nil (DPu T.ok rfl rfl rfl)) ?_
   refine D_cons (D_step2 (js := [(1, 14), (2, 15)]) (by kernel_rfl) fun gd hf => ?_) ?_
   ·have hsd := hs.dr.call hf; have hfe := (G.le_dr _).trans hf.le
    refine QA_eq rfl ?_; refine QA_eq rfl ?_
    refine QA_nil ?_
    refine D_yes rfl ?_
    refine OpR_cut T.ok (a := 64 * j) (b := 64 * n) (ho := rfl) rfl rfl rfl rfl ⟨_, rfl⟩ rfl (by omega) hn ?_
    exact ⟨_, rfl, Fr0.refl _, rfl⟩
   refine D_s (js := [(3, 16)]) (by kernel_rfl) (fun _ _ => QA_eq rfl (QA_nil (DPu T.ok rfl rfl rfl))) ?_
   refine D_cons (D_step2 (js := [(0, 13), (4, 17)]) (by kernel_rfl) fun gd hf => ?_) ?_
   ·have hsd := hs.dr.call hf; have hfe := (G.le_dr _).trans hf.le
    refine QA_eq rfl ?_; refine QA_eq rfl ?_
    refine QA_nil ?_
    refine D_yes rfl ?_
    refine OpR_pure _ T.ok rfl ?_
    refine ⟨_, rfl, Fr0.refl _, ?_⟩
    exact congrArg (Value.int .i64) (show (if ((64 * n - 64 * j : Nat) : Int) < 64 then ((64 * n - 64 * j : Nat) : Int) else 64) = 64 from by split <;> omega)
   refine D_s (js := [(5, 18), (5, 18)]) (by kernel_rfl) (fun _ _ => QA_eq rfl (QA_eq rfl (QA_nil (DPu T.ok rfl rfl rfl)))) ?_
   exact D_nil
  intro g1 hf1; refine QA_eq rfl ?_; refine QA_nil ?_
  replace hs := hs.dr.call hf1; have hqe := (G.le_dr _).trans hf1.le; replace le0 := G.le.trans le0 hqe; replace ep0 := ep0.mono hqe; replace ep1 := ep1.mono hqe
  replace hJp := hJ _ _ _ ((Fr0.dr _).trans hf1) hJp
  refine WL_nil ?_; (with_reducible refine T_then ?_); refine W_seq ?_; refine W_region ?_; refine P1 T.ok rfl rfl rfl ?_; refine WL_o rfl rfl (OpR_loadE T.ok 0 rfl ep0 rfl rfl ?_); (iterate 7 refine P1 T.ok rfl rfl rfl ?_)
  have h64 : IntKind.i64.wrap (((64 * j : Nat) : Int) + 64) = ((64 * j + 64 : Nat) : Int) := by rw [wr (by omega) (by omega)]; omega
  refine WL_re (.int .i64 ((64 * j + 64 : Nat) : Int)) (t := 24) rfl (congrArg (Value.int .i64) h64) ?_
  refine WL_re (.int .i64 ((64 * j + 64 : Nat) : Int)) (t := 27) rfl (congrArg (Value.int .i64) h64) ?_
  refine WL_o rfl rfl (OpR_cut3 T.ok (a := 64 * j) (b := 64 * j + 64) (m := 64 * j + 64) rfl rfl rfl rfl rfl rfl rfl rfl (by omega) (Nat.le_refl _) (by omega) ?_)
  refine WL_re (.slice (some ⟨bk, po + 64 * j, none⟩) 64 64) (t := 28) rfl ?_ ?_
  ·rw [if_neg (by omega), show 64 * j + 64 - 64 * j = 64 from by omega]
   show Value.slice (some ((⟨bk, po, none⟩ : Addr).add (64 * j * 1))) 64 64 = _
   rw [Addr.add_lit, Nat.mul_one]
  obtain ⟨rest, hrest⟩ := range_split hlt
  refine WL_o rfl rfl (OpR_callV rfl rfl rfl rfl rfl rfl ((hy (List.range j) j rest _ hrest le0 hJp).mono ?_))
  rintro _ _ ⟨g3, bb, rfl, rfl, hqe, ht, hf⟩
  refine ⟨_, rfl, ?_⟩
  replace le0 := G.le.trans le0 hqe; replace ep0 := ep0.mono hqe; replace ep1 := ep1.mono hqe
  cases bb with
  | false =>
   refine P1 T.ok rfl rfl rfl ?_; refine WL_nil ?_; (with_reducible refine T_then ?_)
   refine W_yes rfl rfl ?_
   skip
   refine W_ret ?_; (with_reducible refine T_br ?_); (with_reducible refine T_tr ?_; with_reducible refine T_tr ?_); (with_reducible refine T_br ?_); refine ret0 rfl ?_
   exact ⟨g3, _, rfl, rfl, le0, .inr ⟨_, ⟨rest, by rw [hrest]; simp⟩, hf rfl⟩⟩
  | true =>
   refine P1 T.ok rfl rfl rfl ?_; refine WL_nil ?_; (with_reducible refine T_then ?_)
   refine W_no rfl rfl ?_
   refine W_skip ?_; (with_reducible refine T_bn ?_); (with_reducible refine T_then ?_); refine W_region ?_; refine P1 T.ok rfl rfl rfl ?_; refine WL_o rfl rfl (OpR_loadE T.ok 0 rfl ep1 rfl rfl ?_); refine P1 T.ok rfl rfl rfl ?_; refine P1 T.ok rfl rfl rfl ?_; refine WL_nil ?_
   exact fun a ha => ⟨n - (j + 1), by omega, j + 1, _, rfl, le0, by omega, rfl, by rw [List.range_succ]; exact ht rfl, ha.keep ⟨rfl, rfl, rfl, kI rfl (by rw [wr (by omega) (by omega)]; omega), trivial⟩⟩
 ·refine W_no (b := decide (((64 * j : Nat) : Int) < ((64 * n : Nat) : Int))) (decide_eq_false (by omega)) rfl ?_
  obtain rfl : j = n := by omega
  refine W_exit ?_; (with_reducible refine T_tx ?_; with_reducible refine T_tx ?_); (with_reducible refine T_bx ?_)
  refine end0 rfl ?_
  exact ⟨g2, _, rfl, rfl, le0, .inl hJp⟩

theorem chunk_c (ad : Option Addr) (n c : Nat) (g : G) : CallsIn Wd 0 Tryz.prog 128 #[.slice ad n c, .int .i64 64] g.w
  (Ret g fun g' r => ∃ b1 b2, r = .func (.func 143) #[] #[.pointer (some ⟨b1, 0, none⟩), .pointer (some ⟨b2, 0, none⟩)] ∧ EP g' b1 0 [.slice ad n c] ∧ EP g' b2 0 [.int .i64 64]) := by
 have hs := St.start g
 have le0 := G.le.refl g
 refine enter Tryz.func128 rfl Tryz.ntmps128 rfl ?_
 refine W_seq ?_; refine W_region ?_
 refine WL_o rfl rfl (OpR_box rfl hs rfl rfl ?_); clear hs; rintro b1 g1 hs hqe; replace le0 := G.le.trans le0 hqe
 obtain ⟨g2, hw2, hs2, hqe, hep⟩ := hs.fzObj (i := 0) rfl; replace hs := hs2; clear hs2; rw [← hw2]; replace le0 := G.le.trans le0 hqe
 have ep0 := hep; clear hep
 skip
 refine WL_o rfl rfl (OpR_box rfl hs rfl rfl ?_); clear hs; rintro b2 g1 hs hqe; replace le0 := G.le.trans le0 hqe; replace ep0 := ep0.mono hqe
 obtain ⟨g2, hw2, hs2, hqe, hep⟩ := hs.fzObj (i := 0) rfl; replace hs := hs2; clear hs2; rw [← hw2]; replace le0 := G.le.trans le0 hqe; replace ep0 := ep0.mono hqe
 have ep1 := hep; clear hep
 refine P1 T.ok rfl rfl rfl ?_; refine WL_nil ?_; (with_reducible refine T_then ?_); refine W_seq ?_; refine W_seq ?_; refine W_region ?_; refine WL_o rfl rfl (OpR_loadE T.ok 0 rfl ep1 rfl rfl ?_); refine P1 T.ok rfl rfl rfl ?_; refine WL_nil ?_; (with_reducible refine T_then ?_)
 refine W_no rfl rfl ?_
 refine W_skip ?_; (with_reducible refine T_then ?_); refine W_seq ?_; refine W_region ?_; refine P1 T.ok rfl rfl rfl ?_; refine P1 T.ok rfl rfl rfl ?_; refine WL_nil ?_; (with_reducible refine T_then ?_)
 exact W_ret (ret1 rfl rfl (hs.ret ⟨_, _, rfl, ep0, ep1⟩))
end Go.Proofs.YteohjgndanlldaaGreatDoor

/- The walks through package digest: Sum, chains. -/
namespace Go.Proofs.YteohjgndanlldaaGreatDoor
open Go Go.K
set_option maxRecDepth 10000
attribute [local irreducible] W WL OpR bitAnd bitOr bitXor bitClr bitNot shlI shrI
set_option maxHeartbeats 2000000

def padL (n j : Nat) : Nat := (padN n - j)
theorem padN_step {n j : Nat} (h : j < padN n) : (n + 1 + j) % 64 ≠ 56 := by unfold padN at h; omega
theorem padN_end (n : Nat) : (n + 1 + padN n) % 64 = 56 := by unfold padN; omega
theorem padN_le (n : Nat) : padN n ≤ 63 := by unfold padN; omega
def lens (n i : Nat) : List UInt8 := (List.range i).map fun j => lenByte n (7 - j)
theorem lens_succ (n i : Nat) : lens n (i + 1) = lens n i ++ [lenByte n (7 - i)] := by unfold lens; rw [List.range_succ, List.map_append]; rfl
theorem lens_len (n i : Nat) : (lens n i).length = i := by simp [lens]
theorem padded_eq (s : List UInt8) : padded s = s ++ [128] ++ List.replicate (padN s.length) 0 ++ lens s.length 8 := rfl
theorem byte_wrap (n : Int) : ((UInt8.ofNat (IntKind.u8.wrap n).toNat).toNat : Int) = IntKind.u8.wrap n := by
 have h : 0 ≤ IntKind.u8.wrap n ∧ IntKind.u8.wrap n < 256 := by
  unfold IntKind.wrap; simp [IntKind.signed, IntKind.bits]; omega
 generalize IntKind.u8.wrap n = m at *
 rw [UInt8.toNat_ofNat']; omega



theorem sum_c (s : List UInt8) (g : G) (hrk : RoundAt g) (hl : s.length ≤ 1099511627776) : CallsIn Wd 0 Tryz.prog 110 #[.string (bs s)] g.w (Ret g fun _ r => r = .string (bs (sumM s))) := by
 have hs := St.start g
 have le0 := G.le.refl g
 refine enterM Tryz.func110 rfl Tryz.ntmps110 rfl ?_
 refine W_seq ?_; refine W_region ?_; refine P1 T.ok rfl rfl rfl ?_; refine WL_nil ?_; (with_reducible refine T_then ?_); refine W_seq ?_; refine W_region ?_
 refine WL_o rfl rfl (OpR_buildA T.ok rfl (vs := [(0, .int .u32 h0M.a0), (1, .int .u32 h0M.a1), (2, .int .u32 h0M.a2), (3, .int .u32 h0M.a3), (4, .int .u32 h0M.a4), (5, .int .u32 h0M.a5), (6, .int .u32 h0M.a6), (7, .int .u32 h0M.a7)]) (cells := h0M.cells) rfl rfl rfl rfl rfl (by kernel_rfl) ?_)
 skip
 refine WL_o rfl rfl (OpR_alloc T.ok rfl hs rfl rfl ?_); clear hs; rintro bh g1 hs hqe; replace le0 := G.le.trans le0 hqe
 replace hrk := hrk.mono hqe
 skip
 refine WL_n rfl (OpR_storeO T.ok 0 rfl hs rfl rfl rfl rfl rfl rfl rfl rfl rfl ?_); replace hs := hs; rintro g1 hs hqe; replace le0 := G.le.trans le0 hqe
 replace hrk := hrk.mono hqe
 have hst : St g g1 [.obj bh (.cells (hTo (padded s) 0).cells.toArray 193 (0, 0))] := hs
 replace hs := hst; clear hst
 have hsm : sumM s = digestM (hTo (padded s) ((padded s).length / 64)) := rfl
 have hp64 := padded_len s
 have hpe := padded_eq s
 rw [hsm]
 clear hsm
 generalize padded s = pb at *
 refine WL_nil ?_; (with_reducible refine T_then ?_); refine W_seq ?_; refine W_region ?_; refine P1 T.ok rfl rfl rfl ?_
 refine WL_o rfl rfl (OpR_strBytes T.ok rfl hs rfl rfl rfl rfl rfl rfl rfl (by unfold maxLen; omega) ?_)
 rintro bb cb gb hs hqe; replace le0 := G.le.trans le0 hqe
 replace hrk := hrk.mono hqe
 skip
 refine WL_o rfl rfl (OpR_lit T.ok rfl hs (vs := [(0, .int .u8 128)]) (cells := [.int .u8 128]) rfl rfl rfl rfl rfl rfl (by decide) (by decide) (by kernel_rfl) rfl ?_); rintro bl gl hs hqe; replace le0 := G.le.trans le0 hqe
 replace hrk := hrk.mono hqe
 skip
 refine WL_o rfl rfl (OpR_append T.ok 1 rfl hs rfl rfl rfl rfl rfl rfl rfl (by decide) rfl (Src.of_row (hs.own 0 _ rfl).1).2 (by simp [Value.oneCell']) (by show (s.length + 1) * 1 ≤ _; omega) (by unfold maxLen; omega) ?_); rintro a9 c9 g9 hs hqe; replace le0 := G.le.trans le0 hqe
 replace hrk := hrk.mono hqe
 have hst : St g g9 [.row 5 1 (.slice a9 (s.length + 1) c9) (s.length + 1) (byteV (s ++ [128] ++ List.replicate 0 0)), .obj bh (.cells (hTo pb 0).cells.toArray 193 (0, 0))] := by
  have := hs.drop 0
  simpa [byteV] using this
 replace hs := hst; clear hst
 refine P1 T.ok rfl rfl rfl ?_; refine WL_nil ?_; (with_reducible refine T_then ?_); refine W_seq ?_; refine W_block ?_
 have hpn := padN_le s.length
 have hrkc := hrk; have le8 := G.le.refl g9
 refine W_loop (fun m a' w => ∃ (j : Nat) (ad : Option Addr) (c : Nat) (g2 : G), w = g2.w ∧ St g g2 [.row 5 1 (.slice ad (s.length + 1 + j) c) (s.length + 1 + j) (byteV (s ++ [128] ++ List.replicate j 0)), .obj bh (.cells (hTo pb 0).cells.toArray 193 (0, 0))] ∧ G.le g9 g2 ∧ j ≤ padN s.length ∧ m = padN s.length - j ∧
   Fr 40 [] [(0, .string (bs s)), (3, .pointer (some ⟨bh, 0, none⟩)), (4, .slice ad (s.length + 1 + j) c)] a') (padN s.length)
  (fun a' ha => ⟨0, a9, c9, g9, rfl, hs, le8, Nat.zero_le _, rfl, ha.keep (by (repeat (first | exact trivial | refine ⟨rfl, ?_⟩)))⟩) ?_
 clear hs le8 hrk
 rintro m a' _ ⟨j, ad, cc, g2, rfl, hs, le8, hj, rfl, ha'⟩
 have hrk := hrkc.mono le8
 revert a'
 have hmod : ((s.length + 1 + j : Nat) : Int).tmod 64 = (((s.length + 1 + j) % 64 : Nat) : Int) := by rw [Int.tmod_eq_emod_of_nonneg (by omega)]; omega
 (with_reducible refine T_wp ?_); refine W_seq ?_; refine W_seq ?_; refine W_region ?_; (iterate 4 refine P1 T.ok rfl rfl rfl ?_); refine WL_nil ?_; (with_reducible refine T_then ?_)
 by_cases hlt : j < padN s.length
 ·refine W_yes (b := ((s.length + 1 + j : Nat) : Int).tmod 64 != 56) (by have := padN_step hlt; rw [hmod]; simp; omega) rfl ?_
  refine W_skip ?_; (with_reducible refine T_then ?_); refine W_block ?_; refine W_region ?_; refine P1 T.ok rfl rfl rfl ?_
  refine WL_o rfl rfl (OpR_lit T.ok rfl hs (vs := [(0, .int .u8 (0))]) (cells := [.int .u8 (0)]) rfl rfl rfl rfl rfl rfl (by decide) (by decide) (by kernel_rfl) rfl ?_); rintro bl gl hs hqe; replace le8 := G.le.trans le8 hqe
  replace hrk := hrk.mono hqe
  skip
  refine WL_o rfl rfl (OpR_append T.ok 1 rfl hs rfl rfl rfl rfl rfl rfl rfl (by decide) rfl (Src.of_row (hs.own 0 _ rfl).1).2 (by simp [Value.oneCell']) (by show ((s.length + 1 + j) + 1) * 1 ≤ _; omega) (by unfold maxLen; omega) ?_); rintro a9 c9 g9 hs hqe; replace le8 := G.le.trans le8 hqe
  replace hrk := hrk.mono hqe
  replace hs := hs.drop 0
  refine P1 T.ok rfl rfl rfl ?_; refine WL_nil ?_; (with_reducible refine T_bn ?_)
  exact fun a ha => ⟨padN s.length - (j + 1), by omega, j + 1, a9, c9, _, rfl, by rw [List.replicate_succ']; simpa [byteV, List.map_append, Nat.add_assoc] using hs, le8, by omega, rfl, ha.keep (by (repeat (first | exact trivial | refine ⟨rfl, ?_⟩)))⟩
 ·obtain rfl : j = padN s.length := by omega
  have h5 := padN_end s.length
  refine W_no (b := ((s.length + 1 + padN s.length : Nat) : Int).tmod 64 != 56) (by rw [hmod, h5]; rfl) rfl ?_
  generalize hln : s.length + 1 + padN s.length = n1 at *
  have hn1 : (s ++ [128] ++ List.replicate (padN s.length) 0).length = n1 := by simp; omega
  generalize s ++ [128] ++ List.replicate (padN s.length) 0 = p1 at *
  refine W_exit ?_; (with_reducible refine T_tx ?_; with_reducible refine T_tx ?_); (with_reducible refine T_bx ?_); (with_reducible refine T_then ?_); refine W_seq ?_; refine W_seq ?_; refine W_region ?_; refine P1 T.ok rfl rfl rfl ?_; refine WL_nil ?_; (with_reducible refine T_then ?_); refine W_block ?_
  have hrkd := hrk; have le9 := G.le.refl g2
  refine W_loop (fun m a' w => ∃ (i : Nat) (ad : Option Addr) (c : Nat) (g3 : G), w = g3.w ∧ St g g3 [.row 5 1 (.slice ad (n1 + i) c) (n1 + i) (byteV (p1 ++ lens s.length i)), .obj bh (.cells (hTo pb 0).cells.toArray 193 (0, 0))] ∧ G.le g2 g3 ∧ i ≤ 8 ∧ m = 8 - i ∧
    Fr 40 [] [(0, .string (bs s)), (3, .pointer (some ⟨bh, 0, none⟩)), (4, .slice ad (n1 + i) c), (5, .int .i64 (7 - (i : Int)))] a') 8
   (fun a' ha => ⟨0, ad, cc, g2, rfl, by simpa [lens] using hs, le9, Nat.zero_le _, rfl, ha.keep (by (repeat (first | exact trivial | refine ⟨rfl, ?_⟩)))⟩) ?_
  clear hs le9 hrk
  rintro m a' _ ⟨i, ad, cc, g3, rfl, hs, le9, hi, rfl, ha'⟩
  have hrk := hrkd.mono le9
  revert a'
  (with_reducible refine T_wp ?_); refine W_seq ?_; refine W_seq ?_; refine W_region ?_; refine P1 T.ok rfl rfl rfl ?_; refine P1 T.ok rfl rfl rfl ?_; refine WL_nil ?_; (with_reducible refine T_then ?_)
  by_cases hli : i < 8
  ·refine W_yes (b := decide ((0 : Int) ≤ 7 - (i : Int))) (decide_eq_true (by omega)) rfl ?_
   have hls := lens_succ s.length i
   refine W_skip ?_; (with_reducible refine T_then ?_); refine W_seq ?_; refine W_block ?_; refine W_region ?_; (iterate 6 refine P1 T.ok rfl rfl rfl ?_)
   refine WL_re (.int .i64 ((8 * (7 - i) : Nat) : Int)) (t := 28) rfl (congrArg (Value.int .i64) (by rw [wr (by omega) (by omega)]; omega)) ?_
   refine WL_o rfl rfl (OpR_shrV rfl rfl rfl (by omega) ?_)
   rw [Int.toNat_natCast]
   refine P2 T.ok rfl rfl rfl ?_
   refine WL_re (.int .u8 ((lenByte s.length (7 - i)).toNat : Int)) (t := 30) rfl (congrArg (Value.int .u8) (by unfold lenByte; rw [byte_wrap, bs_size])) ?_
   generalize lenByte s.length (7 - i) = lb at *
   refine WL_o rfl rfl (OpR_lit T.ok rfl hs (vs := [(0, .int .u8 ((lb.toNat : Int)))]) (cells := [.int .u8 ((lb.toNat : Int))]) rfl rfl rfl rfl rfl rfl (by decide) (by decide) (by kernel_rfl) rfl ?_); rintro bl gl hs hqe; replace le9 := G.le.trans le9 hqe
   replace hrk := hrk.mono hqe
   skip
   refine WL_o rfl rfl (OpR_append T.ok 1 rfl hs rfl rfl rfl rfl rfl rfl rfl (by decide) rfl (Src.of_row (hs.own 0 _ rfl).1).2 (by simp [Value.oneCell']) (by show ((n1 + i) + 1) * 1 ≤ _; omega) (by unfold maxLen; omega) ?_); rintro a9 c9 g9 hs hqe; replace le9 := G.le.trans le9 hqe
   replace hrk := hrk.mono hqe
   replace hs := hs.drop 0
   refine P1 T.ok rfl rfl rfl ?_; refine WL_nil ?_; (with_reducible refine T_bn ?_); (with_reducible refine T_then ?_); refine W_region ?_; (iterate 3 refine P1 T.ok rfl rfl rfl ?_); refine WL_nil ?_
   exact fun a ha => ⟨8 - (i + 1), by omega, i + 1, a9, c9, _, rfl, by rw [hls]; simpa [byteV, List.map_append, Nat.add_assoc] using hs, le9, by omega, rfl, ha.keep ⟨rfl, rfl, rfl, kI rfl (by rw [wr (by omega) (by omega)]; omega), trivial⟩⟩
  ·refine W_no (b := decide ((0 : Int) ≤ 7 - (i : Int))) (decide_eq_false (by omega)) rfl ?_
   obtain rfl : i = 8 := by omega
   rw [← hpe] at hs
   have hpl : pb.length = n1 + 8 := by rw [hpe, List.length_append, lens_len, hn1]
   obtain ⟨q, hq⟩ : ∃ q, n1 + 8 = 64 * q := ⟨(n1 + 8) / 64, by omega⟩
   rw [hq] at hs hpl ⊢
   have hqb : 64 * q ≤ 1099511627776 + 200 := by omega
   obtain ⟨gz, hwz, hsz, hqz, rs0⟩ := hs.fzRow (α := UInt8) (xs := pb) (i := 0) rfl (RcL.bytes _ _)
   have hqe := hqz; rw [← hwz]; replace hs := hsz; clear hsz
   replace hrk := hrk.mono hqe
   have hcap := rs0.cap_le
   obtain ⟨bk, po, rfl⟩ : ∃ bk po, ad = some ⟨bk, po, none⟩ := by
    obtain ⟨a1, n, c, e, hn, _, h | ⟨b, o, cells, e2, _⟩⟩ := rs0
    ·simp only [Value.slice.injEq] at e; omega
    ·simp only [Value.slice.injEq] at e; exact ⟨b, o, by rw [e.1, e2]⟩
   have le4 := (le0.trans le8).trans (le9.trans hqe)
   refine W_exit ?_; (with_reducible refine T_tx ?_; with_reducible refine T_tx ?_); (with_reducible refine T_bx ?_); (with_reducible refine T_then ?_); refine W_seq ?_; refine W_seq ?_; refine W_region ?_; refine P1 T.ok rfl rfl rfl ?_
   refine WL_o rfl rfl (OpR_ret cl128 allF rfl rfl rfl rfl rfl (chunk_c _ _ _ _) ?_); rintro g4 _ hf4 ⟨b1, b2, rfl, ep0, ep1⟩; replace hs := hs.call hf4; have hqe := hf4.le
   replace rs0 := rs0.mono hqe; replace hrk := hrk.mono hqe; replace le4 := le4.trans hqe
   refine WL_nil ?_; (with_reducible refine T_then ?_); refine W_block ?_
   have hseq := chunkSeq_c b1 b2 bk po q cc g4 ep0 ep1 (by omega) hcap.2.2
   refine W_range (N := 40) hs rfl cl143 hseq rfl (fun _ => rfl)
    (fun pre L _ => L = [.obj bh (.cells (hTo pb pre.length).cells.toArray 193 (0, 0))]) (fun _ _ _ _ => False)
    (fun _ _ _ _ _ h => h) (fun _ _ _ _ _ _ h => h) rfl (fun x => [(6, .slice (some ⟨bk, po + 64 * x, none⟩) 64 64), (3, .pointer (some ⟨bh, 0, none⟩))]) ?_ ?_ ?_ ?_
   ·intro x ro w
    refine W_region ?_; refine P1 T.ok rfl rfl rfl ?_; refine WL_nil ?_
    exact fun a ha => ⟨rfl, ha.keep (by (repeat (first | exact trivial | refine ⟨rfl, ?_⟩)))⟩
   ·rintro lp D ro pre x rest gr Lr hxs hle hs rfl
    have le1 := G.le.refl gr
    have hx : x = pre.length := by
     have h1 := congrArg (fun l => l[pre.length]?) hxs
     simp only [List.getElem?_append_right (Nat.le_refl _), Nat.sub_self, List.getElem?_cons_zero] at h1
     obtain ⟨h2, h3⟩ := List.getElem?_eq_some_iff.1 h1
     rw [List.getElem_range] at h3
     exact h3.symm
    subst hx
    have hxq : pre.length < q := by have := congrArg List.length hxs; simp at this; omega
    have hts := hTo_succ pb pre.length
    have hrs : Rs gr (.slice (some ⟨bk, po + 64 * pre.length, none⟩) 64 64) (chunk pb pre.length) := by
     have := (rs0.mono hle).part (a := 64 * pre.length) (m := 64) (c' := 64) (by omega) (by omega) (Nat.le_refl _) (by unfold maxLen; omega)
     rwa [show 64 * pre.length * El.k UInt8 = 64 * pre.length from Nat.mul_one _] at this
    have hcl : (chunk pb pre.length).length = 64 := by unfold chunk; rw [List.length_take, List.length_drop]; omega
    have hcall := wadd_c g gr _ bh (hTo pb pre.length) _ _ (hs.front (i := 2) rfl) (hrk.mono hle) hrs hcl
    have hcv := CallV_of (first := #[]) (args := [.pointer (some ⟨bh, 0, none⟩), .slice (some ⟨bk, po + 64 * pre.length, none⟩) 64 64]) (captured := #[]) cl129 rfl hcall
    refine W_block ?_; refine W_region ?_; refine P1 T.ok rfl rfl rfl ?_
    refine WL_o rfl rfl (OpR_callV rfl rfl rfl rfl rfl rfl (hcv.mono ?_))
    rintro _ _ ⟨g5, _, rfl, rfl, hqe, rfl, hs5⟩
    refine ⟨_, rfl, ?_⟩
    replace hs := (hs5.front (i := 2) rfl).front (i := 2) rfl
    refine WL_nil ?_; (with_reducible refine T_bn ?_)
    exact fun a ha => ⟨_, _, rfl, hs, le1.trans hqe, by rw [List.length_append, List.length_singleton, hts]; rfl⟩
   ·rintro lp D o Lr ge hle hs rfl
    rw [List.length_range] at hs
    have hdv : pb.length / 64 = q := by omega
    rw [hdv]
    generalize hTo pb q = hv at *
    (with_reducible refine T_bn ?_); (with_reducible refine T_then ?_); refine W_seq ?_; refine W_region ?_; refine WL_o rfl rfl (OpR_loadO T.ok 2 rfl hs rfl rfl rfl ?_)
    refine WL_o rfl rfl (OpR_ret cl130 allF rfl rfl rfl rfl rfl (digest_c _ _) ?_); rintro g1 _ hf1 rfl; replace hs := hs.call hf1; have hqe := hf1.le; skip
    refine P1 T.ok rfl rfl rfl ?_; refine WL_nil ?_; (with_reducible refine T_then ?_)
    refine W_ret ?_; skip
    refine retM1 1 rfl hs rfl rfl (fun g' hs' hle' => ?_)
    exact hs'.ret rfl
   ·rintro c lp D o pre Lr ge _ _ _ h
    exact h.elim
end Go.Proofs.YteohjgndanlldaaGreatDoor

/- The walks through package digest: chains. -/
namespace Go.Proofs.YteohjgndanlldaaGreatDoor
open Go Go.K
set_option maxRecDepth 10000
attribute [local irreducible] W WL OpR bitAnd bitOr bitXor bitClr bitNot shlI shrI
set_option maxHeartbeats 2000000

def chainM (head record : List UInt8) : List UInt8 := sumM ([2] ++ (head ++ record))
theorem chainM_len (h r : List UInt8) : (chainM h r).length = 32 := sumM_len _

theorem join2_c (v : Value) (p q : List UInt8) (g : G) (rs0 : Rs g v [Str.mk p, Str.mk q]) (hl : p.length + q.length ≤ 140737488355328) :
  CallsIn Wd 0 Tryz.prog 111 #[v, .string (bs [])] g.w (Ret g fun _ r => r = .string (bs (p ++ q))) := by
 obtain ⟨a, n, c, rfl, rfl, hnc, h | ⟨b, o, cells, rfl, hb, hr, hc⟩⟩ := id rs0
 ·simp at h
 have hj : (Lib.join ([bs p, bs q].map (·.data.toList)) (bs []).data.toList) = p ++ q := by simp [Lib.join, bs]
 have hcells : ∀ (j : Nat) x, [bs p, bs q][j]? = some x → g.w.cell? ⟨b, o + j, none⟩ = some (.string x) := by
  obtain ⟨c1, c2, rfl, rfl, c3, c4, rfl, rfl, rfl⟩ := hr
  intro j x hx
  refine hc j _ ?_
  rcases j with _ | _ | j
  ·simp at hx; subst hx; rfl
  ·simp at hx; subst hx; rfl
  ·simp at hx
 have := Tryz.strings_Join b o c [bs p, bs q] (bs []) g.w hcells (g.lt b hb) (by show 2 ≤ _; decide) hnc.1 (by rw [hj, List.length_append]; exact hl)
 rw [hj] at this
 exact ret_of_calls this fun _ _ => rfl

theorem marked1_c (b1 : Nat) (m p q : List UInt8) (v : Value) (g : G) (hrk : RoundAt g) (ep0 : EP g b1 0 [.string (bs m)]) (rs0 : Rs g v [Str.mk p, Str.mk q]) (hl : m.length + (p.length + q.length) ≤ 1099511627776) :
  CallsIn Wd 0 Tryz.prog 109 #[v, .pointer (some ⟨b1, 0, none⟩)] g.w (Ret g fun _ r => r = .string (bs (sumM (m ++ (p ++ q))))) := by
 have hs := St.start g
 have le0 := G.le.refl g
 refine enter Tryz.func109 rfl Tryz.ntmps109 rfl ?_
 refine W_seq ?_; refine W_region ?_; refine P1 T.ok rfl rfl rfl ?_; refine WL_nil ?_; (with_reducible refine T_then ?_); refine W_seq ?_
 apply W_draw allF rfl (Fact.eq _ :: Fact.eq _ :: Fact.eq _ :: Fact.eq _ :: Fact.eq _ :: []) 5 [(4, 8)] rfl rfl
 ·refine D_s (js := []) (by kernel_rfl) (fun _ hf => QA_nil (DLe T.ok 0 rfl rfl (ep0.mono ((G.le_dr _).trans hf.le)) rfl rfl rfl)) ?_
  refine D_s (js := []) (by kernel_rfl) (fun _ _ => QA_nil (DPu T.ok rfl rfl rfl)) ?_
  refine D_cons (D_step2 (js := [(1, 5)]) (by kernel_rfl) fun gd hf => ?_) ?_
  ·have hsd := hs.dr.call hf; have hfe := (G.le_dr _).trans hf.le
   refine QA_eq rfl ?_
   refine QA_nil ?_
   refine D_yes rfl ?_
   refine OpR_ret cl111 allF rfl rfl rfl rfl rfl (join2_c _ p q _ (rs0.mono hfe) (by omega)) fun g' v h1 h2 => ⟨g', rfl, h1, ?_⟩
   exact h2
  refine D_cons (D_step2 (js := [(0, 4), (2, 6)]) (by kernel_rfl) fun gd hf => ?_) ?_
  ·have hsd := hs.dr.call hf; have hfe := (G.le_dr _).trans hf.le
   refine QA_eq rfl ?_; refine QA_eq rfl ?_
   refine QA_nil ?_
   refine D_yes rfl ?_
   refine OpR_addS (p := m) (q := p ++ q) rfl rfl rfl (by rw [List.length_append]; omega) ?_
   exact ⟨_, rfl, Fr0.refl _, rfl⟩
  refine D_cons (D_step2 (js := [(3, 7)]) (by kernel_rfl) fun gd hf => ?_) ?_
  ·have hsd := hs.dr.call hf; have hfe := (G.le_dr _).trans hf.le
   refine QA_eq rfl ?_
   refine QA_nil ?_
   refine D_yes rfl ?_
   refine OpR_ret cl110 allF rfl rfl rfl rfl rfl (sum_c (m ++ (p ++ q)) _ (hrk.mono hfe) (by rw [List.length_append, List.length_append]; omega)) fun g' v h1 h2 => ⟨g', rfl, h1, ?_⟩
   exact h2
  exact D_nil
 intro g1 hf1; refine QA_eq rfl ?_; refine QA_nil ?_
 replace hs := hs.dr.call hf1; have hqe := (G.le_dr _).trans hf1.le; replace le0 := G.le.trans le0 hqe; replace ep0 := ep0.mono hqe; replace rs0 := rs0.mono hqe
 refine P1 T.ok rfl rfl rfl ?_; refine WL_nil ?_; (with_reducible refine T_then ?_)
 exact W_ret (ret1 rfl rfl (hs.ret rfl))

theorem marked_c (m : List UInt8) (g : G) : CallsIn Wd 0 Tryz.prog 95 #[.string (bs m)] g.w
  (Ret g fun g' r => ∃ b, r = .func (.func 109) #[] #[.pointer (some ⟨b, 0, none⟩)] ∧ EP g' b 0 [.string (bs m)]) := by
 have hs := St.start g
 have le0 := G.le.refl g
 refine enter Tryz.func95 rfl Tryz.ntmps95 rfl ?_
 refine W_seq ?_; refine W_region ?_
 refine WL_o rfl rfl (OpR_box rfl hs rfl rfl ?_); clear hs; rintro b1 g1 hs hqe; replace le0 := G.le.trans le0 hqe
 obtain ⟨g2, hw2, hs2, hqe, hep⟩ := hs.fzObj (i := 0) rfl; replace hs := hs2; clear hs2; rw [← hw2]; replace le0 := G.le.trans le0 hqe
 have ep0 := hep; clear hep
 refine P1 T.ok rfl rfl rfl ?_; refine WL_nil ?_; (with_reducible refine T_then ?_); refine W_seq ?_; refine W_region ?_; refine P1 T.ok rfl rfl rfl ?_; refine P1 T.ok rfl rfl rfl ?_; refine WL_nil ?_; (with_reducible refine T_then ?_)
 exact W_ret (ret1 rfl rfl (hs.ret ⟨_, rfl, ep0⟩))

theorem chain_c (p q : List UInt8) (g : G) (hrk : RoundAt g) (hl : p.length + q.length ≤ 1099511627775) : CallsIn Wd 0 Tryz.prog 70 #[.string (bs p), .string (bs q)] g.w (Ret g fun _ r => r = .string (bs (chainM p q))) := by
 have hs := St.start g
 have le0 := G.le.refl g
 refine enter Tryz.func70 rfl Tryz.ntmps70 rfl ?_
 refine W_seq ?_; refine W_region ?_; refine P1 T.ok rfl rfl rfl ?_; refine WL_nil ?_; (with_reducible refine T_then ?_); refine W_seq ?_; refine W_region ?_
 refine WL_o rfl rfl (OpR_ret cl95 allF rfl rfl rfl rfl rfl (marked_c [2] _) ?_); rintro g1 _ hf1 ⟨b1, rfl, ep0⟩; replace hs := hs.call hf1; have hqe := hf1.le
 replace le0 := le0.trans hqe; replace hrk := hrk.mono hqe
 refine P1 T.ok rfl rfl rfl ?_; refine P1 T.ok rfl rfl rfl ?_
 refine WL_o rfl rfl (OpR_lit T.ok rfl hs (vs := [(0, .string (bs p)), (1, .string (bs q))]) (cells := [.string (bs p), .string (bs q)]) rfl rfl rfl rfl rfl rfl (by decide) (by decide) (by kernel_rfl) rfl ?_); rintro bl gl hs hqe; replace le0 := G.le.trans le0 hqe; replace ep0 := ep0.mono hqe
 replace hrk := hrk.mono hqe
 obtain ⟨gz, hwz, hsz, hqz, rs0⟩ := hs.fzRow (α := Str) (xs := [⟨p⟩, ⟨q⟩]) (i := 0) rfl ⟨[_], [_], rfl, rfl, [_], [], rfl, rfl, rfl⟩
 clear hqe; have hqe := hqz; rw [← hwz]; replace hs := hsz; clear hsz; replace le0 := G.le.trans le0 hqe; replace ep0 := ep0.mono hqe
 replace hrk := hrk.mono hqe
 have hcv := CallV_of (first := #[]) (args := [.slice (some ⟨bl, 0, none⟩) 2 2]) (captured := #[.pointer (some ⟨b1, 0, none⟩)]) cl109 rfl (marked1_c b1 [2] p q _ _ hrk ep0 rs0 (by simp; omega))
 refine WL_o rfl rfl (OpR_callV rfl rfl rfl rfl rfl rfl (hcv.mono ?_))
 rintro _ _ ⟨g5, _, rfl, hf5, rfl, rfl⟩
 refine ⟨_, rfl, ?_⟩
 replace hs := hs.call hf5
 refine P1 T.ok rfl rfl rfl ?_; refine WL_nil ?_; (with_reducible refine T_then ?_)
 exact W_ret (ret1 rfl rfl (hs.ret rfl))
end Go.Proofs.YteohjgndanlldaaGreatDoor
