/- The laws' own comparison of integer rows. -/
import Derived.Test.YtemdmlmcidfodaaGreatDoorRows
import Derived.LaidMore
import Derived.Stop.Joined
import Derived.ChangeSame
import Derived.ChangeVars
import Derived.RowKitTokens
import Derived.LaidLaws
import Derived.Test.YtemdmlmcidfodaaGreatDoorJFnBitsBin0
import Derived.Test.YtemdmlmcidfodaaGreatDoorJFnBitsBin1
import Derived.Test.YtemdmlmcidfodaaGreatDoorJFnBitsBin8
import Derived.Test.YtemdmlmcidfodaaGreatDoorJFnBitsBin14
import Derived.Test.YtemdmlmcidfodaaGreatDoorJFnBitsBin34
namespace Go.Proofs.YtemdmlmcidfodaaGreatDoor
open Go Go.RowKit
theorem fun_size (h : 59 < Tryz.prog.types.size) : (Tryz.prog.types[59]'h).size = 1:=by kernel_rfl
def rawLt : Bool:=(List.range 11).all fun o => (List.range 4).all fun m => (List.range (2 ^ (m + 1))).all fun p => (List.range (2 ^ (m + 1))).all fun q => Nat.blt (rawN (o + 3) (m + 1) p q) 18446744073709551616
theorem raw_lt {op m p q : Nat} (o0 : 3 <= op) (o1 : op <= 13) (m0 : 1 <= m) (m1 : m <= 4) (hp : p < 2 ^ m) (hq : q < 2 ^ m) : rawN op m p q < 18446744073709551616:=by
 have h1:=List.all_eq_true.1 (show rawLt = true by kernel_rfl) (op - 3) (List.mem_range.2 (by omega)); have h2:=List.all_eq_true.1 h1 (m - 1) (List.mem_range.2 (by omega)); rw [show op - 3 + 3 = op by omega,show m - 1 + 1 = m by omega] at h2; exact Nat.le_of_ble_eq_true (List.all_eq_true.1 (List.all_eq_true.1 h2 p (List.mem_range.2 hp)) q (List.mem_range.2 hq))
theorem three_boxes (w : World) (o o' o2 : Obj) : Below w.heap.size w (((w.alloc o).alloc o').alloc o2) /\ (((w.alloc o).alloc o').alloc o2).heap[w.heap.size]? = some o /\ (((w.alloc o).alloc o').alloc o2).heap[w.heap.size + 1]? = some o' /\ (((w.alloc o).alloc o').alloc o2).heap[w.heap.size + 1 + 1]? = some o2:=by
 obtain ⟨h1,h2,h3,h4⟩:=z0p w o o'; have h5:=heap_alloc_new ((w.alloc o).alloc o') o2; rw [h4] at h5; have hb : Below ((w.alloc o).alloc o').heap.size ((w.alloc o).alloc o') (((w.alloc o).alloc o').alloc o2):=(Below.refl _ _).alloc (Nat.le_refl _) _; exact ⟨h1.trans (hb.mono (by rw [h4]; omega)),(hb.block _ (by rw [h4]; omega)).trans h2,(hb.block _ (by rw [h4]; omega)).trans h3,h5⟩
set_option maxRecDepth 100000 in
set_option maxHeartbeats 4000000 in
theorem vecBin_raw (op : Int) (m p q : Nat) (w : World) (ho0 : 3 <= op) (ho1 : op <= 13) (hm : 1 <= m) (hm4 : m <= 4) (hp2 : p < 2 ^ m) (hq2 : q < 2 ^ m) :
  Calls Tryz.prog 7 #[.int .i64 op,(.agg #[.int .i64 (m : Int),.int .i64 (p : Int)]),(.agg #[.int .i64 (m : Int),.int .i64 (q : Int)])] w fun e w' => e = .returned (.tuple #[.agg #[.int .i64 (m : Int),.int .i64 ((rawN op.toNat m p q % 2 ^ m : Nat) : Int)],.bool true]) /\ Below w.heap.size w w':=by
 obtain ⟨hW,hB0,hB1,hB2⟩:=three_boxes w (.cells #[.int .i64 (m : Int),.int .i64 (p : Int)] 24) (.cells #[.int .i64 (m : Int),.int .i64 (q : Int)] 24) (.cells #[.int .i64 0,.int .i64 0] 24); have h16 : 2 ^ m <= 2 ^ 4:=Nat.pow_le_pow_right (by omega) hm4; have hp : p < 16:=by omega
 have hq : q < 16:=by omega
 have h14 : (op == 14) = false:=by simpa using (by omega : ¬ op = 14)
 have hmm : ((m : Int) != (m : Int)) = false:=by simp
 have HOP : Hid (op = 3 \/ op = 4 \/ op = 5 \/ op = 6 \/ op = 7 \/ op = 8 \/ op = 9 \/ op = 10 \/ op = 11 \/ op = 12 \/ op = 13):=zH (by omega); obtain ⟨R,hR⟩ : ∃ R : Nat,R = rawN op.toNat m p q:=⟨_,rfl⟩; have HR:=zH hR; have hRl : R < 18446744073709551616:=by rw [hR]; exact raw_lt (by omega) (by omega) hm hm4 hp2 hq2
 rw [<- hR]; obtain ⟨r,hr⟩ : ∃ r : Nat,r = R % 2 ^ m:=⟨_,rfl⟩; have hr16 : r < 16:=by have:=Nat.mod_lt R (Nat.two_pow_pos m); omega
 have HVEC:=zH (fun z => vec_any m p R r z hm hm4 hRl hr.symm hr16); rw [<- hr]; have HOKP:=zH (fun z => vecOk_any m p z hm hm4 (by omega) (by exact_mod_cast hp2)); have HOKQ:=zH (fun z => vecOk_any m q z hm hm4 (by omega) (by exact_mod_cast hq2)); have HW:=zH hW; have HB0:=zH hB0; have HB1:=zH hB1; have HB2:=zH hB2; have v0:=(z00 hB0 0).1; have v1:=(z00 hB0 1).1; clear hW hB0 hB1 hB2 hR hr
 go_enter Tryz.func7,Tryz.ntmps7
 go_wp2_with fail
 clear v0 v1; refine (HOKP.out _).mono ?_; generalize hX0 : ((w.alloc (.cells #[.int .i64 (m : Int),.int .i64 (p : Int)] 24)).alloc (.cells #[.int .i64 (m : Int),.int .i64 (q : Int)] 24)).alloc (.cells #[.int .i64 0,.int .i64 0] 24) = X0 at *; clear hX0; rintro e w1 ⟨rfl,hb1⟩; have HB0:=zH ((hb1.block _ (lt_of_block HB0.out)).trans HB0.out); have HB1:=zH ((hb1.block _ (lt_of_block HB1.out)).trans HB1.out); have HB2:=zH ((hb1.block _ (lt_of_block HB2.out)).trans HB2.out); have HW:=zH (z09 HW.out hb1); clear hb1; have z0:=(z00 HB1.out 0).1; have z1:=(z00 HB1.out 1).1
 go_wp2_with fail
 clear z0 z1; refine (HOKQ.out _).mono ?_; rintro e w2 ⟨rfl,hb1⟩; have HB0:=zH ((hb1.block _ (lt_of_block HB0.out)).trans HB0.out); have HB1:=zH ((hb1.block _ (lt_of_block HB1.out)).trans HB1.out); have HB2:=zH ((hb1.block _ (lt_of_block HB2.out)).trans HB2.out); have HW:=zH (z09 HW.out hb1); clear hb1; have v0:=(z00 HB0.out 0).1; have v1:=(z00 HB0.out 1).1; have z0:=(z00 HB1.out 0).1; have z1:=(z00 HB1.out 1).1
 go_wp2
 clear v0 v1 z0 z1; refine z0a [[],[],[],[(1,54),(2,55)],[],[],[(3,56),(4,57),(5,58)],[(0,53),(6,59)],[(7,60)],[]]
  (fun _ _ => True)
  []
  (fun f9 x9 => Below w.heap.size w x9 /\ x9.heap[w.heap.size]? = some (.cells #[.int .i64 (m : Int),.int .i64 (p : Int)] 24 (0,0)) /\ x9.heap[w.heap.size + 1]? = some (.cells #[.int .i64 (m : Int),.int .i64 (q : Int)] 24 (0,0)) /\ (f9 8 = false -> x9.heap[w.heap.size + 1 + 1]? = some (.cells #[.int .i64 0,.int .i64 0] 24 (0,0))) /\ (f9 8 = true -> x9.heap[w.heap.size + 1 + 1]? = some (.cells #[.int .i64 (m : Int),.int .i64 (r : Int)] 24 (0,0))))
  [zF 0 (.agg #[.int .i64 (m : Int),.int .i64 (p : Int)]),
  zF 1 binTab,
  zF 2 (.int .i64 op),
  zF 3 (fnV op),
  zF 4 (.agg #[.int .i64 (m : Int),.int .i64 (p : Int)]),
  zF 5 (.agg #[.int .i64 (m : Int),.int .i64 (q : Int)]),
  zF 6 (.int .u64 (R : Int)),
  zF 7 (.agg #[.int .i64 (m : Int),.int .i64 (r : Int)]),
  fun _ _ => True,
  zF 9 (.bool true)]
  [(0,53),(1,54),(2,55),(3,56),(4,57),(5,58),(6,59),(7,60),(9,7)] (by kernel_rfl) (by kernel_rfl) (by kernel_rfl) (by kernel_rfl)
  (fun _ => trivial) trivial
  ⟨⟨.inr zG,trivial⟩,
  ⟨.inr zG,trivial⟩,
  ⟨.inr zG,trivial⟩,
  ⟨.inr zG,trivial⟩,
  ⟨.inr zG,trivial⟩,
  ⟨.inr zG,trivial⟩,
  ⟨.inr zG,trivial⟩,
  ⟨.inr zG,trivial⟩,
  ⟨.inr zK,trivial⟩,
  ⟨.inr zG,trivial⟩,trivial⟩ ⟨zL,
  zL,
  zL,
  zL,
  zL,
  zL,
  zL,
  zL,
  fun _ _ _ _ _ _ => trivial,
  zL,trivial⟩ (⟨z09 HW.out (z02 (Below.refl _ _) 1),HB0.out,HB1.out,fun _ => HB2.out,fun h => by cases h⟩) ⟨?_,?_,?_,?_,?_,?_,?_,?_,?_,?_,trivial⟩ ?_
 ·
  rintro vals xw f hf1 - - hI hF; dsimp only [z03,bare]; simp only [z01,Act.put,zQ]; have v0:=(z00 hI.2.1 0).1; have v1:=(z00 hI.2.1 1).1
  go_wp2
  exact ⟨rfl,rfl,trivial,hI⟩
 ·
  rintro vals xw f hf1 - - hI hF; dsimp only [z03,bare]; simp only [z01,Act.put,zQ]; have HI:=zH hI; clear hI
  go_wp2_with fail
  refine (binaries_any _).mono ?_; rintro e wx ⟨rfl,hb9⟩; have HQ:=zH (show (fun f9 x9 => Below w.heap.size w x9 /\ x9.heap[w.heap.size]? = some (.cells #[.int .i64 (m : Int),.int .i64 (p : Int)] 24 (0,0)) /\ x9.heap[w.heap.size + 1]? = some (.cells #[.int .i64 (m : Int),.int .i64 (q : Int)] 24 (0,0)) /\ (f9 8 = false -> x9.heap[w.heap.size + 1 + 1]? = some (.cells #[.int .i64 0,.int .i64 0] 24 (0,0))) /\ (f9 8 = true -> x9.heap[w.heap.size + 1 + 1]? = some (.cells #[.int .i64 (m : Int),.int .i64 (r : Int)] 24 (0,0)))) (did f 1) wx from (by exact ⟨z09 HI.out.1 hb9,(hb9.block _ (lt_of_block HI.out.2.1)).trans HI.out.2.1,(hb9.block _ (lt_of_block HI.out.2.2.1)).trans HI.out.2.2.1,fun h => (hb9.block _ (lt_of_block (HI.out.2.2.2.1 h))).trans (HI.out.2.2.2.1 h),fun h => (hb9.block _ (lt_of_block (HI.out.2.2.2.2 h))).trans (HI.out.2.2.2.2 h)⟩)); clear hb9
  go_wp2
  exact ⟨rfl,rfl,trivial,HQ.out⟩
 ·
  rintro vals xw f hf1 - - hI hF; dsimp only [z03,bare]; simp only [z01,Act.put,zQ]
  go_wp2
  exact ⟨rfl,rfl,trivial,hI⟩
 ·
  rintro vals xw f hf1 - - hI hF; simp only [z05,zF,zR,and_true] at hF; obtain ⟨e1,e2⟩:=hF; dsimp only [z03,bare]; simp only [z01,Act.put,zQ]; simp only [e1,e2]; have hsz:=fun_size; simp only [binTab]
  rcases HOP.out with rfl | rfl | rfl | rfl | rfl | rfl | rfl | rfl | rfl | rfl | rfl
  ·
   go_wp2
   rename_i K hK
   refine hK _ _ ⟨rfl,?_,trivial,hI⟩; simp [hsz,fnV]
   rfl
  ·
   go_wp2
   rename_i K hK
   refine hK _ _ ⟨rfl,?_,trivial,hI⟩; simp [hsz,fnV]
   rfl
  ·
   go_wp2
   rename_i K hK
   refine hK _ _ ⟨rfl,?_,trivial,hI⟩; simp [hsz,fnV]
   rfl
  ·
   go_wp2
   rename_i K hK
   refine hK _ _ ⟨rfl,?_,trivial,hI⟩; simp [hsz,fnV]
   rfl
  ·
   go_wp2
   rename_i K hK
   refine hK _ _ ⟨rfl,?_,trivial,hI⟩; simp [hsz,fnV]
   rfl
  ·
   go_wp2
   rename_i K hK
   refine hK _ _ ⟨rfl,?_,trivial,hI⟩; simp [hsz,fnV]
   rfl
  ·
   go_wp2
   rename_i K hK
   refine hK _ _ ⟨rfl,?_,trivial,hI⟩; simp [hsz,fnV]
   rfl
  ·
   go_wp2
   rename_i K hK
   refine hK _ _ ⟨rfl,?_,trivial,hI⟩; simp [hsz,fnV]
   rfl
  ·
   go_wp2
   rename_i K hK
   refine hK _ _ ⟨rfl,?_,trivial,hI⟩; simp [hsz,fnV]
   rfl
  ·
   go_wp2
   rename_i K hK
   refine hK _ _ ⟨rfl,?_,trivial,hI⟩; simp [hsz,fnV]
   rfl
  ·
   go_wp2
   rename_i K hK
   refine hK _ _ ⟨rfl,?_,trivial,hI⟩; simp [hsz,fnV]
   rfl
 ·
  rintro vals xw f hf1 - - hI hF; dsimp only [z03,bare]; simp only [z01,Act.put,zQ]; have v0:=(z00 hI.2.1 0).1; have v1:=(z00 hI.2.1 1).1
  go_wp2
  exact ⟨rfl,rfl,trivial,hI⟩
 ·
  rintro vals xw f hf1 - - hI hF; dsimp only [z03,bare]; simp only [z01,Act.put,zQ]; have v0:=(z00 hI.2.2.1 0).1; have v1:=(z00 hI.2.2.1 1).1
  go_wp2
  exact ⟨rfl,rfl,trivial,hI⟩
 ·
  rintro vals xw f hf1 - - hI hF; simp only [z05,zF,zR,and_true] at hF; obtain ⟨e1,e2,e3⟩:=hF; dsimp only [z03,bare]; simp only [z01,Act.put,zQ]; simp only [e2,e3]
  rcases HOP.out with rfl | rfl | rfl | rfl | rfl | rfl | rfl | rfl | rfl | rfl | rfl
  ·
   have e9 : vals 3 = (.func (Fn.func 52) #[] #[]):=e1; simp only [e9]; have HI:=zH hI; clear hI
   go_wp2_with fail
   refine (raw_3 m p q _ hm hm4 hp hq hp2).mono ?_; rintro e wx ⟨rfl,hb9⟩; have HQ:=zH (show (fun f9 x9 => Below w.heap.size w x9 /\ x9.heap[w.heap.size]? = some (.cells #[.int .i64 (m : Int),.int .i64 (p : Int)] 24 (0,0)) /\ x9.heap[w.heap.size + 1]? = some (.cells #[.int .i64 (m : Int),.int .i64 (q : Int)] 24 (0,0)) /\ (f9 8 = false -> x9.heap[w.heap.size + 1 + 1]? = some (.cells #[.int .i64 0,.int .i64 0] 24 (0,0))) /\ (f9 8 = true -> x9.heap[w.heap.size + 1 + 1]? = some (.cells #[.int .i64 (m : Int),.int .i64 (r : Int)] 24 (0,0)))) (did f 6) wx from (by exact ⟨z09 HI.out.1 hb9,(hb9.block _ (lt_of_block HI.out.2.1)).trans HI.out.2.1,(hb9.block _ (lt_of_block HI.out.2.2.1)).trans HI.out.2.2.1,fun h => (hb9.block _ (lt_of_block (HI.out.2.2.2.1 h))).trans (HI.out.2.2.2.1 h),fun h => (hb9.block _ (lt_of_block (HI.out.2.2.2.2 h))).trans (HI.out.2.2.2.2 h)⟩)); clear hb9
   go_wp2
   exact ⟨rfl,by rw [HR.out]; rfl,trivial,HQ.out⟩
  ·
   have e9 : vals 3 = (.func (Fn.func 54) #[] #[]):=e1; simp only [e9]; have HI:=zH hI; clear hI
   go_wp2_with fail
   refine (raw_4 m p q _ hm hm4 hp hq hp2).mono ?_; rintro e wx ⟨rfl,hb9⟩; have HQ:=zH (show (fun f9 x9 => Below w.heap.size w x9 /\ x9.heap[w.heap.size]? = some (.cells #[.int .i64 (m : Int),.int .i64 (p : Int)] 24 (0,0)) /\ x9.heap[w.heap.size + 1]? = some (.cells #[.int .i64 (m : Int),.int .i64 (q : Int)] 24 (0,0)) /\ (f9 8 = false -> x9.heap[w.heap.size + 1 + 1]? = some (.cells #[.int .i64 0,.int .i64 0] 24 (0,0))) /\ (f9 8 = true -> x9.heap[w.heap.size + 1 + 1]? = some (.cells #[.int .i64 (m : Int),.int .i64 (r : Int)] 24 (0,0)))) (did f 6) wx from (by exact ⟨z09 HI.out.1 hb9,(hb9.block _ (lt_of_block HI.out.2.1)).trans HI.out.2.1,(hb9.block _ (lt_of_block HI.out.2.2.1)).trans HI.out.2.2.1,fun h => (hb9.block _ (lt_of_block (HI.out.2.2.2.1 h))).trans (HI.out.2.2.2.1 h),fun h => (hb9.block _ (lt_of_block (HI.out.2.2.2.2 h))).trans (HI.out.2.2.2.2 h)⟩)); clear hb9
   go_wp2
   exact ⟨rfl,by rw [HR.out]; rfl,trivial,HQ.out⟩
  ·
   have e9 : vals 3 = (.func (Fn.func 55) #[] #[]):=e1; simp only [e9]; have HI:=zH hI; clear hI
   go_wp2_with fail
   refine (raw_5 m p q _ hm hm4 hp hq hp2).mono ?_; rintro e wx ⟨rfl,hb9⟩; have HQ:=zH (show (fun f9 x9 => Below w.heap.size w x9 /\ x9.heap[w.heap.size]? = some (.cells #[.int .i64 (m : Int),.int .i64 (p : Int)] 24 (0,0)) /\ x9.heap[w.heap.size + 1]? = some (.cells #[.int .i64 (m : Int),.int .i64 (q : Int)] 24 (0,0)) /\ (f9 8 = false -> x9.heap[w.heap.size + 1 + 1]? = some (.cells #[.int .i64 0,.int .i64 0] 24 (0,0))) /\ (f9 8 = true -> x9.heap[w.heap.size + 1 + 1]? = some (.cells #[.int .i64 (m : Int),.int .i64 (r : Int)] 24 (0,0)))) (did f 6) wx from (by exact ⟨z09 HI.out.1 hb9,(hb9.block _ (lt_of_block HI.out.2.1)).trans HI.out.2.1,(hb9.block _ (lt_of_block HI.out.2.2.1)).trans HI.out.2.2.1,fun h => (hb9.block _ (lt_of_block (HI.out.2.2.2.1 h))).trans (HI.out.2.2.2.1 h),fun h => (hb9.block _ (lt_of_block (HI.out.2.2.2.2 h))).trans (HI.out.2.2.2.2 h)⟩)); clear hb9
   go_wp2
   exact ⟨rfl,by rw [HR.out]; rfl,trivial,HQ.out⟩
  ·
   have e9 : vals 3 = (.func (Fn.func 56) #[] #[]):=e1; simp only [e9]; have HI:=zH hI; clear hI
   go_wp2_with fail
   refine (raw_6 m p q _ hm hm4 hp hq hp2).mono ?_; rintro e wx ⟨rfl,hb9⟩; have HQ:=zH (show (fun f9 x9 => Below w.heap.size w x9 /\ x9.heap[w.heap.size]? = some (.cells #[.int .i64 (m : Int),.int .i64 (p : Int)] 24 (0,0)) /\ x9.heap[w.heap.size + 1]? = some (.cells #[.int .i64 (m : Int),.int .i64 (q : Int)] 24 (0,0)) /\ (f9 8 = false -> x9.heap[w.heap.size + 1 + 1]? = some (.cells #[.int .i64 0,.int .i64 0] 24 (0,0))) /\ (f9 8 = true -> x9.heap[w.heap.size + 1 + 1]? = some (.cells #[.int .i64 (m : Int),.int .i64 (r : Int)] 24 (0,0)))) (did f 6) wx from (by exact ⟨z09 HI.out.1 hb9,(hb9.block _ (lt_of_block HI.out.2.1)).trans HI.out.2.1,(hb9.block _ (lt_of_block HI.out.2.2.1)).trans HI.out.2.2.1,fun h => (hb9.block _ (lt_of_block (HI.out.2.2.2.1 h))).trans (HI.out.2.2.2.1 h),fun h => (hb9.block _ (lt_of_block (HI.out.2.2.2.2 h))).trans (HI.out.2.2.2.2 h)⟩)); clear hb9
   go_wp2
   exact ⟨rfl,by rw [HR.out]; rfl,trivial,HQ.out⟩
  ·
   have e9 : vals 3 = (.func (Fn.func 57) #[] #[]):=e1; simp only [e9]; have HI:=zH hI; clear hI
   go_wp2_with fail
   refine (raw_7 m p q _ hm hm4 hp hq hp2).mono ?_; rintro e wx ⟨rfl,hb9⟩; have HQ:=zH (show (fun f9 x9 => Below w.heap.size w x9 /\ x9.heap[w.heap.size]? = some (.cells #[.int .i64 (m : Int),.int .i64 (p : Int)] 24 (0,0)) /\ x9.heap[w.heap.size + 1]? = some (.cells #[.int .i64 (m : Int),.int .i64 (q : Int)] 24 (0,0)) /\ (f9 8 = false -> x9.heap[w.heap.size + 1 + 1]? = some (.cells #[.int .i64 0,.int .i64 0] 24 (0,0))) /\ (f9 8 = true -> x9.heap[w.heap.size + 1 + 1]? = some (.cells #[.int .i64 (m : Int),.int .i64 (r : Int)] 24 (0,0)))) (did f 6) wx from (by exact ⟨z09 HI.out.1 hb9,(hb9.block _ (lt_of_block HI.out.2.1)).trans HI.out.2.1,(hb9.block _ (lt_of_block HI.out.2.2.1)).trans HI.out.2.2.1,fun h => (hb9.block _ (lt_of_block (HI.out.2.2.2.1 h))).trans (HI.out.2.2.2.1 h),fun h => (hb9.block _ (lt_of_block (HI.out.2.2.2.2 h))).trans (HI.out.2.2.2.2 h)⟩)); clear hb9
   go_wp2
   exact ⟨rfl,by rw [HR.out]; rfl,trivial,HQ.out⟩
  ·
   have e9 : vals 3 = (.func (Fn.func 58) #[] #[]):=e1; simp only [e9]; have HI:=zH hI; clear hI
   go_wp2_with fail
   refine (raw_8 m p q _ hm hm4 hp hq hp2).mono ?_; rintro e wx ⟨rfl,hb9⟩; have HQ:=zH (show (fun f9 x9 => Below w.heap.size w x9 /\ x9.heap[w.heap.size]? = some (.cells #[.int .i64 (m : Int),.int .i64 (p : Int)] 24 (0,0)) /\ x9.heap[w.heap.size + 1]? = some (.cells #[.int .i64 (m : Int),.int .i64 (q : Int)] 24 (0,0)) /\ (f9 8 = false -> x9.heap[w.heap.size + 1 + 1]? = some (.cells #[.int .i64 0,.int .i64 0] 24 (0,0))) /\ (f9 8 = true -> x9.heap[w.heap.size + 1 + 1]? = some (.cells #[.int .i64 (m : Int),.int .i64 (r : Int)] 24 (0,0)))) (did f 6) wx from (by exact ⟨z09 HI.out.1 hb9,(hb9.block _ (lt_of_block HI.out.2.1)).trans HI.out.2.1,(hb9.block _ (lt_of_block HI.out.2.2.1)).trans HI.out.2.2.1,fun h => (hb9.block _ (lt_of_block (HI.out.2.2.2.1 h))).trans (HI.out.2.2.2.1 h),fun h => (hb9.block _ (lt_of_block (HI.out.2.2.2.2 h))).trans (HI.out.2.2.2.2 h)⟩)); clear hb9
   go_wp2
   exact ⟨rfl,by rw [HR.out]; rfl,trivial,HQ.out⟩
  ·
   have e9 : vals 3 = (.func (Fn.func 59) #[] #[]):=e1; simp only [e9]; have HI:=zH hI; clear hI
   go_wp2_with fail
   refine (raw_9 m p q _ hm hm4 hp hq hp2).mono ?_; rintro e wx ⟨rfl,hb9⟩; have HQ:=zH (show (fun f9 x9 => Below w.heap.size w x9 /\ x9.heap[w.heap.size]? = some (.cells #[.int .i64 (m : Int),.int .i64 (p : Int)] 24 (0,0)) /\ x9.heap[w.heap.size + 1]? = some (.cells #[.int .i64 (m : Int),.int .i64 (q : Int)] 24 (0,0)) /\ (f9 8 = false -> x9.heap[w.heap.size + 1 + 1]? = some (.cells #[.int .i64 0,.int .i64 0] 24 (0,0))) /\ (f9 8 = true -> x9.heap[w.heap.size + 1 + 1]? = some (.cells #[.int .i64 (m : Int),.int .i64 (r : Int)] 24 (0,0)))) (did f 6) wx from (by exact ⟨z09 HI.out.1 hb9,(hb9.block _ (lt_of_block HI.out.2.1)).trans HI.out.2.1,(hb9.block _ (lt_of_block HI.out.2.2.1)).trans HI.out.2.2.1,fun h => (hb9.block _ (lt_of_block (HI.out.2.2.2.1 h))).trans (HI.out.2.2.2.1 h),fun h => (hb9.block _ (lt_of_block (HI.out.2.2.2.2 h))).trans (HI.out.2.2.2.2 h)⟩)); clear hb9
   go_wp2
   exact ⟨rfl,by rw [HR.out]; rfl,trivial,HQ.out⟩
  ·
   have e9 : vals 3 = (.func (Fn.func 61) #[] #[]):=e1; simp only [e9]; have HI:=zH hI; clear hI
   go_wp2_with fail
   refine (raw_10 m p q _ hm hm4 hp hq hp2).mono ?_; rintro e wx ⟨rfl,hb9⟩; have HQ:=zH (show (fun f9 x9 => Below w.heap.size w x9 /\ x9.heap[w.heap.size]? = some (.cells #[.int .i64 (m : Int),.int .i64 (p : Int)] 24 (0,0)) /\ x9.heap[w.heap.size + 1]? = some (.cells #[.int .i64 (m : Int),.int .i64 (q : Int)] 24 (0,0)) /\ (f9 8 = false -> x9.heap[w.heap.size + 1 + 1]? = some (.cells #[.int .i64 0,.int .i64 0] 24 (0,0))) /\ (f9 8 = true -> x9.heap[w.heap.size + 1 + 1]? = some (.cells #[.int .i64 (m : Int),.int .i64 (r : Int)] 24 (0,0)))) (did f 6) wx from (by exact ⟨z09 HI.out.1 hb9,(hb9.block _ (lt_of_block HI.out.2.1)).trans HI.out.2.1,(hb9.block _ (lt_of_block HI.out.2.2.1)).trans HI.out.2.2.1,fun h => (hb9.block _ (lt_of_block (HI.out.2.2.2.1 h))).trans (HI.out.2.2.2.1 h),fun h => (hb9.block _ (lt_of_block (HI.out.2.2.2.2 h))).trans (HI.out.2.2.2.2 h)⟩)); clear hb9
   go_wp2
   exact ⟨rfl,by rw [HR.out]; rfl,trivial,HQ.out⟩
  ·
   have e9 : vals 3 = (.func (Fn.func 62) #[] #[]):=e1; simp only [e9]; have HI:=zH hI; clear hI
   go_wp2_with fail
   refine (raw_11 m p q _ hm hm4 hp hq hp2).mono ?_; rintro e wx ⟨rfl,hb9⟩; have HQ:=zH (show (fun f9 x9 => Below w.heap.size w x9 /\ x9.heap[w.heap.size]? = some (.cells #[.int .i64 (m : Int),.int .i64 (p : Int)] 24 (0,0)) /\ x9.heap[w.heap.size + 1]? = some (.cells #[.int .i64 (m : Int),.int .i64 (q : Int)] 24 (0,0)) /\ (f9 8 = false -> x9.heap[w.heap.size + 1 + 1]? = some (.cells #[.int .i64 0,.int .i64 0] 24 (0,0))) /\ (f9 8 = true -> x9.heap[w.heap.size + 1 + 1]? = some (.cells #[.int .i64 (m : Int),.int .i64 (r : Int)] 24 (0,0)))) (did f 6) wx from (by exact ⟨z09 HI.out.1 hb9,(hb9.block _ (lt_of_block HI.out.2.1)).trans HI.out.2.1,(hb9.block _ (lt_of_block HI.out.2.2.1)).trans HI.out.2.2.1,fun h => (hb9.block _ (lt_of_block (HI.out.2.2.2.1 h))).trans (HI.out.2.2.2.1 h),fun h => (hb9.block _ (lt_of_block (HI.out.2.2.2.2 h))).trans (HI.out.2.2.2.2 h)⟩)); clear hb9
   go_wp2
   exact ⟨rfl,by rw [HR.out]; rfl,trivial,HQ.out⟩
  ·
   have e9 : vals 3 = (.func (Fn.func 63) #[] #[]):=e1; simp only [e9]; have HI:=zH hI; clear hI
   go_wp2_with fail
   refine (raw_12 m p q _ hm hm4 hp hq hp2).mono ?_; rintro e wx ⟨rfl,hb9⟩; have HQ:=zH (show (fun f9 x9 => Below w.heap.size w x9 /\ x9.heap[w.heap.size]? = some (.cells #[.int .i64 (m : Int),.int .i64 (p : Int)] 24 (0,0)) /\ x9.heap[w.heap.size + 1]? = some (.cells #[.int .i64 (m : Int),.int .i64 (q : Int)] 24 (0,0)) /\ (f9 8 = false -> x9.heap[w.heap.size + 1 + 1]? = some (.cells #[.int .i64 0,.int .i64 0] 24 (0,0))) /\ (f9 8 = true -> x9.heap[w.heap.size + 1 + 1]? = some (.cells #[.int .i64 (m : Int),.int .i64 (r : Int)] 24 (0,0)))) (did f 6) wx from (by exact ⟨z09 HI.out.1 hb9,(hb9.block _ (lt_of_block HI.out.2.1)).trans HI.out.2.1,(hb9.block _ (lt_of_block HI.out.2.2.1)).trans HI.out.2.2.1,fun h => (hb9.block _ (lt_of_block (HI.out.2.2.2.1 h))).trans (HI.out.2.2.2.1 h),fun h => (hb9.block _ (lt_of_block (HI.out.2.2.2.2 h))).trans (HI.out.2.2.2.2 h)⟩)); clear hb9
   go_wp2
   exact ⟨rfl,by rw [HR.out]; rfl,trivial,HQ.out⟩
  ·
   have e9 : vals 3 = (.func (Fn.func 64) #[] #[]):=e1; simp only [e9]; have HI:=zH hI; clear hI
   go_wp2_with fail
   refine (raw_13 m p q _ hm hm4 hp hq hp2).mono ?_; rintro e wx ⟨rfl,hb9⟩; have HQ:=zH (show (fun f9 x9 => Below w.heap.size w x9 /\ x9.heap[w.heap.size]? = some (.cells #[.int .i64 (m : Int),.int .i64 (p : Int)] 24 (0,0)) /\ x9.heap[w.heap.size + 1]? = some (.cells #[.int .i64 (m : Int),.int .i64 (q : Int)] 24 (0,0)) /\ (f9 8 = false -> x9.heap[w.heap.size + 1 + 1]? = some (.cells #[.int .i64 0,.int .i64 0] 24 (0,0))) /\ (f9 8 = true -> x9.heap[w.heap.size + 1 + 1]? = some (.cells #[.int .i64 (m : Int),.int .i64 (r : Int)] 24 (0,0)))) (did f 6) wx from (by exact ⟨z09 HI.out.1 hb9,(hb9.block _ (lt_of_block HI.out.2.1)).trans HI.out.2.1,(hb9.block _ (lt_of_block HI.out.2.2.1)).trans HI.out.2.2.1,fun h => (hb9.block _ (lt_of_block (HI.out.2.2.2.1 h))).trans (HI.out.2.2.2.1 h),fun h => (hb9.block _ (lt_of_block (HI.out.2.2.2.2 h))).trans (HI.out.2.2.2.2 h)⟩)); clear hb9
   go_wp2
   exact ⟨rfl,by rw [HR.out]; rfl,trivial,HQ.out⟩
 ·
  rintro vals xw f hf1 - - hI hF; simp only [z05,zF,zR,and_true] at hF; obtain ⟨e1,e2⟩:=hF; dsimp only [z03,bare]; simp only [z01,Act.put,zQ]; simp only [e1,e2]; have HI:=zH hI; clear hI
  go_wp2_with fail
  refine (HVEC.out _).mono ?_; rintro e wx ⟨rfl,hb9⟩; have HQ:=zH (show (fun f9 x9 => Below w.heap.size w x9 /\ x9.heap[w.heap.size]? = some (.cells #[.int .i64 (m : Int),.int .i64 (p : Int)] 24 (0,0)) /\ x9.heap[w.heap.size + 1]? = some (.cells #[.int .i64 (m : Int),.int .i64 (q : Int)] 24 (0,0)) /\ (f9 8 = false -> x9.heap[w.heap.size + 1 + 1]? = some (.cells #[.int .i64 0,.int .i64 0] 24 (0,0))) /\ (f9 8 = true -> x9.heap[w.heap.size + 1 + 1]? = some (.cells #[.int .i64 (m : Int),.int .i64 (r : Int)] 24 (0,0)))) (did f 7) wx from (by exact ⟨z09 HI.out.1 hb9,(hb9.block _ (lt_of_block HI.out.2.1)).trans HI.out.2.1,(hb9.block _ (lt_of_block HI.out.2.2.1)).trans HI.out.2.2.1,fun h => (hb9.block _ (lt_of_block (HI.out.2.2.2.1 h))).trans (HI.out.2.2.2.1 h),fun h => (hb9.block _ (lt_of_block (HI.out.2.2.2.2 h))).trans (HI.out.2.2.2.2 h)⟩)); clear hb9
  go_wp2
  exact ⟨rfl,rfl,trivial,HQ.out⟩
 ·
  rintro vals xw f hf1 - - hI hF; simp only [z05,zF,zR,and_true] at hF; have e1:=hF; dsimp only [z03,bare]; simp only [z01,Act.put,zQ]; simp only [e1]; obtain ⟨i1,i2,i3,i4,i5⟩:=hI; have j3:=i4 hf1; have v0:=(z00 j3 0).1; have v1:=(z00 j3 1).1; have f0:=(z00 j3 0).2; have f1:=(z00 j3 1).2; have I1:=zH i1; have I2:=zH i2; have I3:=zH i3; have J3:=zH j3; clear i1 i2 i3 i4 i5 j3
  go_wp2
  have h2:=z04 _ (w.heap.size + 1 + 1) 1 (.int .i64 (r : Int)) _ _ (z04 xw (w.heap.size + 1 + 1) 0 (.int .i64 (m : Int)) _ _ J3.out); exact ⟨rfl,trivial,trivial,z0b (z0b I1.out (by show w.heap.size <= w.heap.size + 1 + 1; omega) _) (by show w.heap.size <= w.heap.size + 1 + 1; omega) _,(heap_setCell_other _ _ _ _ (by show w.heap.size ≠ w.heap.size + 1 + 1; omega)).trans ((heap_setCell_other _ _ _ _ (by show w.heap.size ≠ w.heap.size + 1 + 1; omega)).trans I2.out),(heap_setCell_other _ _ _ _ (by show w.heap.size + 1 ≠ w.heap.size + 1 + 1; omega)).trans ((heap_setCell_other _ _ _ _ (by show w.heap.size + 1 ≠ w.heap.size + 1 + 1; omega)).trans I3.out),fun h => absurd ((z0h f 8).symm.trans h) (by simp),fun _ => h2⟩
 ·
  rintro vals xw f hf1 - - hI hF; dsimp only [z03,bare]; simp only [z01,Act.put,zQ]
  go_wp2
  exact ⟨rfl,rfl,trivial,hI⟩
 ·
  intro vals xw f hall hI hF; rw [show List.range _ = [0,1,2,3,4,5,6,7,8,9] from rfl] at hF; simp only [says,zF,zR,and_true] at hF; obtain ⟨i1,i2,i3,i4,i5⟩:=hI; have j4:=i5 (hall 8 (by decide)); have k5:=(z00 j4 0).1; have k6:=(z00 j4 1).1; have kf5:=(z00 j4 0).2; have kf6:=(z00 j4 1).2; have e9 : vals 9 = .bool true:=by obtain ⟨_,_,_,_,_,_,_,_,_,e9⟩:=hF; exact e9
  have I1:=zH i1; clear i1 i2 i3 i4 i5 j4 hF; simp only [z01,Act.put,zQ]; simp only [e9]; clear e9
  go_wp2
  refine bodyPost_ret (v:=(.tuple #[.agg #[.int .i64 (m : Int),.int .i64 (r : Int)],.bool true])) (by simp [results,Tryz.results7,go_sem,k5,k6,kf5,kf6]) rfl ?_; exact ⟨rfl,I1.out⟩
theorem cat_or {a b p q : Nat} (hp : p < 2 ^ a) (hq : q < 2 ^ b) (h : a + b <= 4) : bits .or .i64 ((p * 2 ^ b : Nat) : Int) (q : Int) = ((p * 2 ^ b + q : Nat) : Int):=by
 have h1 : 2 ^ b <= 2 ^ 4:=Nat.pow_le_pow_right (by omega) (by omega); have h2 : p * 2 ^ b < 2 ^ a * 2 ^ b:=Nat.mul_lt_mul_of_pos_right hp (Nat.two_pow_pos b); rw [<- Nat.pow_add] at h2; have h3 : 2 ^ (a + b) <= 2 ^ 4:=Nat.pow_le_pow_right (by omega) h; have:=(bits_nat .i64 5 (by decide) (fun n h0 h1 => by rw [IntKind.wrap_i64]; omega) (p * 2 ^ b) q (by omega) (by omega)).2; rw [this,Nat.mul_comm,<- Nat.two_pow_add_eq_or_of_lt hq]
set_option maxRecDepth 100000 in
set_option maxHeartbeats 4000000 in
theorem vecBin_cat (a b p q : Nat) (w : World) (ha : 1 <= a) (ha4 : a <= 4) (hb : 1 <= b) (hb4 : b <= 4) (hp2 : p < 2 ^ a) (hq2 : q < 2 ^ b) (hab : a + b <= 4) :
  Calls Tryz.prog 7 #[.int .i64 14,(.agg #[.int .i64 (a : Int),.int .i64 (p : Int)]),(.agg #[.int .i64 (b : Int),.int .i64 (q : Int)])] w fun e w' => e = .returned (.tuple #[.agg #[.int .i64 ((a : Int) + b),.int .i64 ((p * 2 ^ b + q : Nat) : Int)],.bool true]) /\ Below w.heap.size w w':=by
 obtain ⟨hW,hB0,hB1,hB2⟩:=three_boxes w (.cells #[.int .i64 (a : Int),.int .i64 (p : Int)] 24) (.cells #[.int .i64 (b : Int),.int .i64 (q : Int)] 24) (.cells #[.int .i64 0,.int .i64 0] 24); have h16 : 2 ^ a <= 2 ^ 4:=Nat.pow_le_pow_right (by omega) ha4; have h17 : 2 ^ b <= 2 ^ 4:=Nat.pow_le_pow_right (by omega) hb4; have hp : p < 16:=by omega
 have hq : q < 16:=by omega
 obtain ⟨S,hS⟩ : ∃ S : Nat,S = p * 2 ^ b:=⟨_,rfl⟩; obtain ⟨T,hT⟩ : ∃ T : Nat,T = p * 2 ^ b + q:=⟨_,rfl⟩; have HX1 : Hid (IntKind.i64.wrap ((p : Int) * 2 ^ b) = (S : Int)):=zH (by have h9 : p * 2 ^ b <= 16 * 2 ^ 4:=Nat.mul_le_mul (by omega) h17; have h8 : ((p : Int) * 2 ^ b) = ((p * 2 ^ b : Nat) : Int):=(by simp); rw [hS,IntKind.wrap_i64]; omega); have HX2 : Hid (bits .or .i64 (S : Int) (q : Int) = (T : Int)):=zH (by rw [hS,hT]; exact cat_or hp2 hq2 hab); rw [<- hT]; have HOKP:=zH (fun z => vecOk_any a p z ha ha4 (by omega) (by exact_mod_cast hp2)); have HOKQ:=zH (fun z => vecOk_any b q z hb hb4 (by omega) (by exact_mod_cast hq2)); have HW:=zH hW; have HB0:=zH hB0; have HB1:=zH hB1; have HB2:=zH hB2; have v0:=(z00 hB0 0).1; have v1:=(z00 hB0 1).1; have habI : (a : Int) + b <= 4:=by omega
 clear hW hB0 hB1 hB2 hS hT
 go_enter Tryz.func7,Tryz.ntmps7
 go_wp2_with fail
 clear v0 v1; refine (HOKP.out _).mono ?_; generalize hX0 : ((w.alloc (.cells #[.int .i64 (a : Int),.int .i64 (p : Int)] 24)).alloc (.cells #[.int .i64 (b : Int),.int .i64 (q : Int)] 24)).alloc (.cells #[.int .i64 0,.int .i64 0] 24) = X0 at *; clear hX0; rintro e w1 ⟨rfl,hb1⟩; have HB0:=zH ((hb1.block _ (lt_of_block HB0.out)).trans HB0.out); have HB1:=zH ((hb1.block _ (lt_of_block HB1.out)).trans HB1.out); have HB2:=zH ((hb1.block _ (lt_of_block HB2.out)).trans HB2.out); have HW:=zH (z09 HW.out hb1); clear hb1; have z0:=(z00 HB1.out 0).1; have z1:=(z00 HB1.out 1).1
 go_wp2_with fail
 clear z0 z1; refine (HOKQ.out _).mono ?_; rintro e w2 ⟨rfl,hb1⟩; have HB0:=zH ((hb1.block _ (lt_of_block HB0.out)).trans HB0.out); have HB1:=zH ((hb1.block _ (lt_of_block HB1.out)).trans HB1.out); have HB2:=zH ((hb1.block _ (lt_of_block HB2.out)).trans HB2.out); have HW:=zH (z09 HW.out hb1); clear hb1; obtain ⟨Z,hZ⟩ : ∃ Z,Z = w2.heap.size:=⟨_,rfl⟩; have hz2 : w.heap.size + 1 + 1 < Z:=by rw [hZ]; exact lt_of_block HB2.out
 have HZ:=zH hZ; clear hZ
 go_wp2
 refine z0a [[],[(0,20)],[],[(2,22)],[(1,21),(3,23)],[],[(5,25)],[],[(7,27)],[(6,26),(8,28)],[],[(10,30)],[(9,29),(11,31)],[(4,24),(12,32)],[],[(14,8),(13,33)]]
  (fun _ _ => True)
  []
  (fun f9 x9 => Below w.heap.size w x9 /\ x9.heap[w.heap.size]? = some (.cells #[.int .i64 (a : Int),.int .i64 (p : Int)] 24 (0,0)) /\ x9.heap[w.heap.size + 1]? = some (.cells #[.int .i64 (b : Int),.int .i64 (q : Int)] 24 (0,0)) /\ x9.heap[w.heap.size + 1 + 1]? = some (.cells #[.int .i64 0,.int .i64 0] 24 (0,0)) /\ (f9 14 = false -> x9.heap.size = Z) /\ (f9 14 = true -> f9 15 = false -> x9.heap[Z]? = some (.cells #[.int .i64 0,.int .i64 0] 24 (0,0))) /\ (f9 15 = true -> x9.heap[Z]? = some (.cells #[.int .i64 ((a : Int) + b),.int .i64 (T : Int)] 24 (0,0))))
  [zF 0 (.pointer (some ⟨w.heap.size,0,none⟩)),
  zF 1 (.int .i64 (a : Int)),
  zF 2 (.pointer (some ⟨w.heap.size + 1,0,none⟩)),
  zF 3 (.int .i64 (b : Int)),
  zF 4 (.int .i64 ((a : Int) + b)),
  zF 5 (.pointer (some ⟨w.heap.size,1,none⟩)),
  zF 6 (.int .i64 (p : Int)),
  zF 7 (.pointer (some ⟨w.heap.size + 1,0,none⟩)),
  zF 8 (.int .i64 (b : Int)),
  zF 9 (.int .i64 (S : Int)),
  zF 10 (.pointer (some ⟨w.heap.size + 1,1,none⟩)),
  zF 11 (.int .i64 (q : Int)),
  zF 12 (.int .i64 (T : Int)),
  zF 13 (.agg #[.int .i64 ((a : Int) + b),.int .i64 (T : Int)]),
  zF 14 (.pointer (some ⟨Z,0,none⟩)),
  fun _ _ => True]
  [(0,20),(1,21),(2,22),(3,23),(4,24),(5,25),(6,26),(7,27),(8,28),(9,29),(10,30),(11,31),(12,32),(13,33),(14,8)] (by kernel_rfl) (by kernel_rfl) (by kernel_rfl) (by kernel_rfl)
  (fun _ => trivial) trivial
  ⟨⟨.inr zG,trivial⟩,
  ⟨.inr zG,trivial⟩,
  ⟨.inr zG,trivial⟩,
  ⟨.inr zG,trivial⟩,
  ⟨.inr zG,trivial⟩,
  ⟨.inr zG,trivial⟩,
  ⟨.inr zG,trivial⟩,
  ⟨.inr zG,trivial⟩,
  ⟨.inr zG,trivial⟩,
  ⟨.inr zG,trivial⟩,
  ⟨.inr zG,trivial⟩,
  ⟨.inr zG,trivial⟩,
  ⟨.inr zG,trivial⟩,
  ⟨.inr zG,trivial⟩,
  ⟨.inr zG,trivial⟩,
  ⟨.inr zK,trivial⟩,trivial⟩ ⟨zL,
  zL,
  zL,
  zL,
  zL,
  zL,
  zL,
  zL,
  zL,
  zL,
  zL,
  zL,
  zL,
  zL,
  zL,
  fun _ _ _ _ _ _ => trivial,trivial⟩ (⟨z09 HW.out (z02 (Below.refl _ _) 1),HB0.out,HB1.out,HB2.out,fun _ => HZ.out.symm,fun h => (by cases h),fun h => (by cases h)⟩) ⟨?_,?_,?_,?_,?_,?_,?_,?_,?_,?_,?_,?_,?_,?_,?_,?_,trivial⟩ ?_
 ·
  rintro vals xw f hf1 - - hI hF; dsimp only [z03,bare]; simp only [z01,Act.put,zQ]
  go_wp2
  exact ⟨rfl,rfl,trivial,hI⟩
 ·
  rintro vals xw f hf1 - - hI hF; simp only [z05,zF,zR,and_true] at hF; have e1:=hF; dsimp only [z03,bare]; simp only [z01,Act.put,zQ]; simp only [e1]; have v0:=(z00 hI.2.1 0).1; have v1:=(z00 hI.2.1 1).1
  go_wp2
  exact ⟨rfl,rfl,trivial,hI⟩
 ·
  rintro vals xw f hf1 - - hI hF; dsimp only [z03,bare]; simp only [z01,Act.put,zQ]
  go_wp2
  exact ⟨rfl,rfl,trivial,hI⟩
 ·
  rintro vals xw f hf1 - - hI hF; simp only [z05,zF,zR,and_true] at hF; have e1:=hF; dsimp only [z03,bare]; simp only [z01,Act.put,zQ]; simp only [e1]; have v0:=(z00 hI.2.2.1 0).1; have v1:=(z00 hI.2.2.1 1).1
  go_wp2
  exact ⟨rfl,rfl,trivial,hI⟩
 ·
  rintro vals xw f hf1 - - hI hF; simp only [z05,zF,zR,and_true] at hF; obtain ⟨e1,e2⟩:=hF; dsimp only [z03,bare]; simp only [z01,Act.put,zQ]; simp only [e1,e2]
  go_wp2
  exact ⟨rfl,rfl,trivial,hI⟩
 ·
  rintro vals xw f hf1 - - hI hF; dsimp only [z03,bare]; simp only [z01,Act.put,zQ]
  go_wp2
  exact ⟨rfl,rfl,trivial,hI⟩
 ·
  rintro vals xw f hf1 - - hI hF; simp only [z05,zF,zR,and_true] at hF; have e1:=hF; dsimp only [z03,bare]; simp only [z01,Act.put,zQ]; simp only [e1]; have v0:=(z00 hI.2.1 0).1; have v1:=(z00 hI.2.1 1).1
  go_wp2
  exact ⟨rfl,rfl,trivial,hI⟩
 ·
  rintro vals xw f hf1 - - hI hF; dsimp only [z03,bare]; simp only [z01,Act.put,zQ]
  go_wp2
  exact ⟨rfl,rfl,trivial,hI⟩
 ·
  rintro vals xw f hf1 - - hI hF; simp only [z05,zF,zR,and_true] at hF; have e1:=hF; dsimp only [z03,bare]; simp only [z01,Act.put,zQ]; simp only [e1]; have v0:=(z00 hI.2.2.1 0).1; have v1:=(z00 hI.2.2.1 1).1
  go_wp2
  exact ⟨rfl,rfl,trivial,hI⟩
 ·
  rintro vals xw f hf1 - - hI hF; simp only [z05,zF,zR,and_true] at hF; obtain ⟨e1,e2⟩:=hF; dsimp only [z03,bare]; simp only [z01,Act.put,zQ]; simp only [e1,e2]; have hx:=HX1.out
  go_wp2
  exact ⟨rfl,rfl,trivial,hI⟩
 ·
  rintro vals xw f hf1 - - hI hF; dsimp only [z03,bare]; simp only [z01,Act.put,zQ]
  go_wp2
  exact ⟨rfl,rfl,trivial,hI⟩
 ·
  rintro vals xw f hf1 - - hI hF; simp only [z05,zF,zR,and_true] at hF; have e1:=hF; dsimp only [z03,bare]; simp only [z01,Act.put,zQ]; simp only [e1]; have v0:=(z00 hI.2.2.1 0).1; have v1:=(z00 hI.2.2.1 1).1
  go_wp2
  exact ⟨rfl,rfl,trivial,hI⟩
 ·
  rintro vals xw f hf1 - - hI hF; simp only [z05,zF,zR,and_true] at hF; obtain ⟨e1,e2⟩:=hF; dsimp only [z03,bare]; simp only [z01,Act.put,zQ]; simp only [e1,e2]; have hx:=HX2.out
  go_wp2
  exact ⟨rfl,rfl,trivial,hI⟩
 ·
  rintro vals xw f hf1 - - hI hF; simp only [z05,zF,zR,and_true] at hF; obtain ⟨e1,e2⟩:=hF; dsimp only [z03,bare]; simp only [z01,Act.put,zQ]; simp only [e1,e2]
  go_wp2
  exact ⟨rfl,rfl,trivial,hI⟩
 ·
  rintro vals xw f hf1 - - hI hF; dsimp only [z03,bare]; simp only [z01,Act.put,zQ]; obtain ⟨i1,i2,i3,i4,i5,i6,i7⟩:=hI; have hs:=i5 hf1; have hal : Below xw.heap.size xw (xw.alloc (.cells #[.int .i64 0,.int .i64 0] 24)):=(Below.refl _ _).alloc (Nat.le_refl _) _; have hnew : (xw.alloc (.cells #[.int .i64 0,.int .i64 0] 24)).heap[Z]? = some (.cells #[.int .i64 0,.int .i64 0] 24 (0,0)):=by rw [<- hs]; exact heap_alloc_new _ _
  have HQ:=zH (show (fun f9 x9 => Below w.heap.size w x9 /\ x9.heap[w.heap.size]? = some (.cells #[.int .i64 (a : Int),.int .i64 (p : Int)] 24 (0,0)) /\ x9.heap[w.heap.size + 1]? = some (.cells #[.int .i64 (b : Int),.int .i64 (q : Int)] 24 (0,0)) /\ x9.heap[w.heap.size + 1 + 1]? = some (.cells #[.int .i64 0,.int .i64 0] 24 (0,0)) /\ (f9 14 = false -> x9.heap.size = Z) /\ (f9 14 = true -> f9 15 = false -> x9.heap[Z]? = some (.cells #[.int .i64 0,.int .i64 0] 24 (0,0))) /\ (f9 15 = true -> x9.heap[Z]? = some (.cells #[.int .i64 ((a : Int) + b),.int .i64 (T : Int)] 24 (0,0)))) (did f 14) (xw.alloc (.cells #[.int .i64 0,.int .i64 0] 24)) from (by exact ⟨z09 i1 hal,(hal.block _ (lt_of_block i2)).trans i2,(hal.block _ (lt_of_block i3)).trans i3,(hal.block _ (lt_of_block i4)).trans i4,fun h => absurd ((z0h f 14).symm.trans h) (by simp),fun _ _ => hnew,fun h => absurd (lt_of_block (i7 h)) (by omega)⟩)); have HS:=zH hs; clear i1 i2 i3 i4 i5 i6 i7 hal hnew hs
  go_wp2
  refine ⟨rfl,?_,trivial,HQ.out⟩
  show (Value.pointer (some ⟨xw.heap.size,0,none⟩)) = _
  rw [HS.out]
 ·
  intro vals xw f hf1 hf2 hf3 hI hF; have k14 : f 14 = true:=hf2 14 (by kernel_rfl); clear hf2 hf3; simp only [z05,zF,zR,and_true] at hF; obtain ⟨e1,e2⟩:=hF; dsimp only [z03,bare]; simp only [z01,Act.put,zQ]; simp only [e1,e2]; obtain ⟨i1,i2,i3,i4,i5,i6,i7⟩:=hI; have j3:=i6 k14 hf1; have v0:=(z00 j3 0).1; have v1:=(z00 j3 1).1; have f0:=(z00 j3 0).2; have f1:=(z00 j3 1).2; have I1:=zH i1; have I2:=zH i2; have I3:=zH i3; have I4:=zH i4; have J3:=zH j3; clear i1 i2 i3 i4 i5 i6 i7 j3
  go_wp2
  have h2:=z04 _ Z 1 (.int .i64 (T : Int)) _ _ (z04 xw Z 0 (.int .i64 ((a : Int) + b)) _ _ J3.out); exact ⟨rfl,trivial,trivial,z0b (z0b I1.out (by show w.heap.size <= Z; omega) _) (by show w.heap.size <= Z; omega) _,(heap_setCell_other _ _ _ _ (by show w.heap.size ≠ Z; omega)).trans ((heap_setCell_other _ _ _ _ (by show w.heap.size ≠ Z; omega)).trans I2.out),(heap_setCell_other _ _ _ _ (by show w.heap.size + 1 ≠ Z; omega)).trans ((heap_setCell_other _ _ _ _ (by show w.heap.size + 1 ≠ Z; omega)).trans I3.out),(heap_setCell_other _ _ _ _ (by show w.heap.size + 1 + 1 ≠ Z; omega)).trans ((heap_setCell_other _ _ _ _ (by show w.heap.size + 1 + 1 ≠ Z; omega)).trans I4.out),fun h => absurd (k14.symm.trans h) (by simp),fun _ h => absurd ((z0h f 15).symm.trans h) (by simp),fun _ => h2⟩
 ·
  intro vals xw f hall hI hF; rw [show List.range _ = [0,1,2,3,4,5,6,7,8,9,10,11,12,13,14,15] from rfl] at hF; simp only [says,zF,zR,and_true] at hF; obtain ⟨i1,i2,i3,i4,i5,i6,i7⟩:=hI; have j7:=i7 (hall 15 (by decide)); have e8 : vals 14 = (.pointer (some ⟨Z,0,none⟩)):=by obtain ⟨_,_,_,_,_,_,_,_,_,_,_,_,_,_,e8⟩:=hF; exact e8
  have v0:=(z00 j7 0).1; have v1:=(z00 j7 1).1; have u0:=(z00 i4 0).1; have u1:=(z00 i4 1).1; have g0:=(z00 i4 0).2; have g1:=(z00 i4 1).2; have I1:=zH i1; have I4:=zH i4; clear i1 i2 i3 i4 i5 i6 i7 j7 hF; simp only [z01,Act.put,zQ]; simp only [e8]; clear e8
  go_wp2
  have hq9:=z04 _ (w.heap.size + 1 + 1) 1 (.int .i64 (T : Int)) _ _ (z04 xw (w.heap.size + 1 + 1) 0 (.int .i64 ((a : Int) + b)) _ _ I4.out); have k5:=(z00 hq9 0).1; have k6:=(z00 hq9 1).1; have kf5:=(z00 hq9 0).2; have kf6:=(z00 hq9 1).2; clear v0 v1 u0 u1 g0 g1; refine bodyPost_ret (v:=(.tuple #[.agg #[.int .i64 ((a : Int) + b),.int .i64 (T : Int)],.bool true])) (by simp [results,Tryz.results7,go_sem,k5,k6,kf5,kf6]) rfl ?_; exact ⟨rfl,z0b (z0b I1.out (by show w.heap.size <= w.heap.size + 1 + 1; omega) _) (by show w.heap.size <= w.heap.size + 1 + 1; omega) _⟩
end Go.Proofs.YtemdmlmcidfodaaGreatDoor
namespace Go.Proofs.YtemdmlmcidfodaaGreatDoor
open Go Go.ChangeShapes Go.WideShapes Go.ChangeAt Go.RowKit
theorem dr_own : ownKnob Tryz.prog.godebug = none:=by kernel_rfl
theorem dr_g0 : Tryz.prog.globalNamed "loop.example/seedlip/impl.errBits" = some 1 := by kernel_rfl
theorem dr_g1 : Tryz.prog.globalNamed "loop.example/seedlip/impl.errRoom" = some 0 := by kernel_rfl
theorem dr_t0 : (Tryz.prog.globals[1]?).map (·.type) = some 71:=by kernel_rfl
theorem dr_t1 : (Tryz.prog.globals[0]?).map (·.type) = some 71:=by kernel_rfl
theorem dr_c0 : Tryz.prog.cellsOf 201 = 1:=by kernel_rfl
theorem dr_c1 : Tryz.prog.cellsOf 9 = 1:=by kernel_rfl
theorem dr_star : "*" ++ "errors.errorString" = "*errors.errorString" := by decide
theorem dr_row (u : TypeId) (h : Tryz.prog.typeName? 3 u = some "*errors.errorString") : u = 174 :=
 typeName_ptr_named (nm := "errors.errorString") (by rw [dr_star]; kernel_rfl) (by kernel_rfl) (by decide) u (by rw [dr_star]; exact h)
abbrev laid2 : List (String × DataW Unit) := [("loop.example/seedlip/impl.errRoom", Rows.laid_loop_example_seedlip_impl_errRoom), ("loop.example/seedlip/impl.errBits", Rows.laid_loop_example_seedlip_impl_errBits)]
set_option maxRecDepth 100000 in
theorem glb_of_laid {W : World} (h : laidMetH Tryz.prog laid2 W) :
  ∃ a0 a1 : Addr, Glb a0 a1 W.heap.size W /\ W.var? Tryz.prog "loop.example/seedlip/impl.errBits" = some #[z28 a0] /\ W.var? Tryz.prog "loop.example/seedlip/impl.errRoom" = some #[z28 a1] := by
 rw [MakeChecks.laidMetH_plain _ _ _ (by kernel_rfl)] at h; obtain ⟨ps,⟨g1,t1,cs1,f1,p1,q1,hg1,ht1,hv1,hd1,⟨g0,t0,cs0,f0,p0,q0,hg0,ht0,hv0,hd0,hq0,e0⟩,e1⟩,hnd,hrows⟩:=h; obtain rfl:=Option.some.inj (dr_g0.symm.trans hg0); obtain rfl:=Option.some.inj (dr_g1.symm.trans hg1); obtain rfl:=Option.some.inj (dr_t0.symm.trans ht0); obtain rfl:=Option.some.inj (dr_t1.symm.trans ht1); have hq0' : q0 = []:=hq0; subst hq0'; subst e0; subst e1; obtain ⟨l0⟩:=cs0; obtain ⟨l1⟩:=cs1; have ok0 : ∀ u v,l0 = [.iface u v] -> Value.okWide Tryz.prog W .any 0 u v:=fun u v e => by
  subst e; exact (hrows 1 0 (by simp [MemPlace.row])).2 u v (by simpa using World.var?_cell hg0 hv0 0)
 have ok1 : ∀ u v,l1 = [.iface u v] -> Value.okWide Tryz.prog W .any 0 u v:=fun u v e => by
  subst e; exact (hrows 0 0 (by simp [MemPlace.row])).2 u v (by simpa using World.var?_cell hg1 hv1 0)
 obtain ⟨a0,s0,rfl,hc0,hs0,hz0,rfl⟩:=errorString_of_trod Tryz.underlying71 dr_row Tryz.underlying174 Tryz.underlying201 rfl rfl Tryz.underlying9 dr_c0 dr_c1 hd0 ok0; obtain ⟨a1,s1,rfl,hc1,hs1,hz1,rfl⟩:=errorString_of_trod Tryz.underlying71 dr_row Tryz.underlying174 Tryz.underlying201 rfl rfl Tryz.underlying9 dr_c0 dr_c1 hd1 ok1; obtain ⟨c0,t0,hb0⟩:=(hrows a0.block a0.off (by simp [MemPlace.row])).1; obtain ⟨c1,t1,hb1⟩:=(hrows a1.block a1.off (by simp [MemPlace.row])).1; have k0 : W.cell? ⟨1,0,none⟩ = some (z28 a0):=by simpa using World.var?_cell dr_g0 hv0 0
 have k1 : W.cell? ⟨0,0,none⟩ = some (z28 a1):=by simpa using World.var?_cell dr_g1 hv1 0
 refine ⟨a0,a1,⟨k0,k1,⟨c0,t0,hb0⟩,⟨c1,t1,hb1⟩,?_,?_,(Array.getElem?_eq_some_iff.1 hb0).1,(Array.getElem?_eq_some_iff.1 hb1).1⟩,hv0,hv1⟩
 ·
  rintro rfl; simp [MemPlace.row] at hnd
 ·
  have h1:=World.block_lt_of_cell? W _ k1; have h0:=World.block_lt_of_cell? W _ k0; dsimp only at h0 h1
  omega
theorem var_below {W W' : World} {n : String} {g : Nat} {cs : Array Value} (hg : Tryz.prog.globalNamed n = some g) (h : W.var? Tryz.prog n = some cs) (hb : Below W.heap.size W W') : W'.var? Tryz.prog n = some cs:=by
 unfold World.var? at h ⊢; rw [hg] at h ⊢; simp only [Option.bind_some] at h ⊢; have hlt : g < W.heap.size:=by
  rcases Nat.lt_or_ge g W.heap.size with h' | h'
  · exact h'
  · simp [Array.getElem?_eq_none h'] at h
 rw [hb.block g hlt]; exact h
theorem vars_read {H : Type} (enc : TypeId × Value -> H) {W : World} {x0 x1 : Value} (h0 : W.var? Tryz.prog "loop.example/seedlip/impl.errBits" = some #[x0]) (h1 : W.var? Tryz.prog "loop.example/seedlip/impl.errRoom" = some #[x1]) (i0 : IsIface x0) (i1 : IsIface x1) (sp : Nat -> Bool) :
  DataW.TrodVars enc Tryz.prog W sp ["loop.example/seedlip/impl.errBits", "loop.example/seedlip/impl.errRoom"] [tok enc x0, tok enc x1] [.cell 1 0, .cell 0 0] :=
 ⟨1,71,#[x0],1,[],[.cell 0 0],dr_g0,dr_t0,h0,trod_held Tryz.underlying71 i0 0,⟨0,71,#[x1],1,[],[],dr_g1,dr_t1,h1,trod_held Tryz.underlying71 i1 0,rfl,rfl⟩,rfl⟩
theorem door_met (os : Os) (args : Array Value) : laidMetH Tryz.prog laid2 ((World.doorLaid Tryz.prog 400 os).forCall (fun _ _ => 0) ⟨#[],args,[]⟩).memory :=
 laidMetH_of_parts3 (fuel:=8) (laidMet_of_run' 8 (by kernel_rfl) (by kernel_rfl)) (by kernel_rfl) (by kernel_rfl)
end Go.Proofs.YtemdmlmcidfodaaGreatDoor
namespace Go.Proofs.YtemdmlmcidfodaaGreatDoor
open Go Go.RowKit
set_option maxHeartbeats 400000 in
theorem wpInts_any (A B : Option Addr) (c d : Nat) (xs ys : List Int) (F G : Nat -> Prop) (w : World) (h : Lay.int.Sl w F A xs) (h' : Lay.int.Sl w G B ys) (hn : xs.length <= 1048576) (hn' : ys.length <= 1048576) :
  Calls Tryz.prog 13 #[.slice A xs.length c,.slice B ys.length d] w fun e w' => e = .returned (.bool (decide (xs = ys))) /\ ∃ n,w' = w.drewN n:=by
 by_cases hl : xs.length = ys.length
 ·
  have hne : (((xs.length : Int) != (ys.length : Int))) = false:=by simp [hl]
  have HL:=zH hl; clear hl
  go_enter Tryz.func13,Tryz.ntmps13
  go_wp2
  clear hne
  go_loopw [5] (fun i wr => ∃ k m : Nat,k <= xs.length /\ i = .int .i64 k /\ wr = w.drewN m /\ xs.take k = ys.take k) (fun i _ => xs.length - (intOf i).toNat)
  case atStart => exact ⟨0,0,Nat.zero_le _,rfl,rfl,rfl⟩
  case round =>
   obtain ⟨k,m,hk,rfl,rfl,ht⟩:=hrel; have HT:=zH ht; clear ht
   by_cases hlt : k < xs.length
   ·
    have hlt' : k < ys.length:=by have:=HL.out; omega
    obtain ⟨ad,rfl,hf,hc⟩:=h.at_int hlt; obtain ⟨ad',rfl,hf',hc'⟩:=h'.at_int hlt'; have hk0 : (0 : Int) <= k:=by omega
    have hk1 : (k : Int) < xs.length:=by omega
    have hk2 : (k : Int) < ys.length:=by omega
    clear h h' hf hf'
    by_cases hxy : xs[k] = ys[k]
    ·
     have hb : (xs[k] != ys[k]) = false:=by simp [hxy]
     have HX:=zH hxy; clear hxy
     go_wp2
     go_quiet (fail)
     go_wp2
     go_roundw
     case rel => exact ⟨k + 1,_,by omega,by go_num,rfl,take_eq_step hlt hlt' HT.out HX.out⟩
     case measure => simp [intOf]; omega
    ·
     have hb : (xs[k] != ys[k]) = true:=by simp [hxy]
     go_wp2
     go_quiet (fail)
     go_wp2
     go_ret
     exact ⟨z0m (by simp; rintro rfl; exact hxy rfl),m + nq,by rw [World.drewN_drewN]⟩
   ·
    have : k = xs.length:=by omega
    subst this
    go_wp2
    go_ret
    exact ⟨z0m (by have:=HL.out; have:=HT.out; simp [eq_of_take HL.out HT.out]),_,rfl⟩
 ·
  have hne : (((xs.length : Int) != (ys.length : Int))) = true:=by simp; omega
  go_enter Tryz.func13,Tryz.ntmps13
  go_wp2
  go_ret
  exact ⟨z0m (by simp; rintro rfl; exact hl rfl),0,rfl⟩
theorem wpInts_u (xs ys : List Int) (A B : Option Addr) (c d : Nat) (w : World) (h : Lay.int.Rd w A xs) (h' : Lay.int.Rd w B ys) (hs : xs.length <= 1048576) (hs' : ys.length <= 1048576) :
  Calls Tryz.prog 13 #[.slice A xs.length c,.slice B ys.length d] w (RetB w (decide (xs = ys))) :=
 (wpInts_any A B c d xs ys _ _ w h h' hs hs').mono fun _ _ ⟨h,m,hm⟩ => ⟨h,by rw [hm]; exact z02 (Below.refl _ _) m⟩
end Go.Proofs.YtemdmlmcidfodaaGreatDoor
