/- The program's VecBin where the vectors are right. -/
import Derived.Test.YtemdmlmcidfodaaGreatDoorJFnBitsBin0
import Derived.Test.YtemdmlmcidfodaaGreatDoorJFnBitsBin33
namespace Go.Proofs.YtemdmlmcidfodaaGreatDoor
open Go Go.RowKit
set_option maxRecDepth 100000 in
set_option maxHeartbeats 2000000 in
theorem raw_3 (m p q : Nat) (w : World) (hm : 1 <= m) (hm4 : m <= 4) (hp : p < 16) (hq : q < 16) (hp2 : p < 2 ^ m) :
  Calls Tryz.prog 52 #[(.agg #[.int .i64 (m : Int),.int .i64 (p : Int)]),(.agg #[.int .i64 (m : Int),.int .i64 (q : Int)])] w fun e w' => e = .returned (.int .u64 ((rawN 3 m p q : Nat) : Int)) /\ Below w.heap.size w w':=by
 obtain ⟨hW,hB0,hB1,hWS⟩:=z0p w (.cells #[.int .i64 (m : Int),.int .i64 (p : Int)] 24) (.cells #[.int .i64 (m : Int),.int .i64 (q : Int)] 24); have HW:=zH hW; have HB0:=zH hB0; have HB1:=zH hB1; have HRP:=zH (fun z => z1c m p z (by omega) (by omega)); have HRQ:=zH (fun z => z1c m q z (by omega) (by omega)); obtain ⟨R,hR⟩ : ∃ R : Nat,R = rawN 3 m p q:=⟨_,rfl⟩; have HR:=zH hR; have HX : Hid (bits .and .u64 (p : Int) q = (R : Int)):=zH (by rw [HR.out]; exact bits_and_u64_nat p q (by omega) (by omega)); rw [<- hR]; clear hR; clear hW hB0 hB1 hWS
 go_enter Tryz.func52,Tryz.ntmps52
 go_wp2
 generalize hw1 : (w.alloc (.cells #[.int .i64 (m : Int),.int .i64 (p : Int)] 24)).alloc (.cells #[.int .i64 (m : Int),.int .i64 (q : Int)] 24) = w1 at *; clear hw1; have d0:=z0f.cell (z00 HB0.out 0).1; have d1:=z0f.cell (z00 HB0.out 1).1; have d2:=z0f.cell (z00 HB1.out 0).1; have d3:=z0f.cell (z00 HB1.out 1).1; refine z0d [[],[(0,5)],[],[(2,7)],[(1,6),(3,8)],[(4,9)]]
  [.eq (.agg #[.int .i64 (m : Int),.int .i64 (p : Int)]),Fact.u64B w1 (p : Int),.eq (.agg #[.int .i64 (m : Int),.int .i64 (q : Int)]),Fact.u64B w1 (q : Int),Fact.u64B w1 (R : Int),Fact.u64B w1 (R : Int)]
  [] [] [] [5] [(0,5),(1,6),(2,7),(3,8),(4,9),(5,4)] (by kernel_rfl) (by kernel_rfl) (by kernel_rfl) (by kernel_rfl)
  ⟨?_,?_,?_,?_,?_,?_,trivial⟩ ?_
 ·
  intro vals x9 hC hF; have hC:=hC.resolve_left (by simp); have hsz:=hC.size; have e1 : x9.cell? _ = _:=d0 ⟨x9,hC⟩; have e2 : x9.cell? _ = _:=d1 ⟨x9,hC⟩; simp only [z01,Act.put,zQ]
  go_wp2
  exact ⟨rfl,rfl,.inr (Below.refl _ _),.inr (.inl (by simp))⟩
 ·
  intro vals x9 hC hF; have hC:=hC.resolve_left (by simp); have hsz:=hC.size; simp only [z0c,zR,Fact.eq,Fact.row,Fact.lit,Fact.lit0,Fact.of,and_true,Fact.u64B] at hF; simp only [z01,Act.put,zQ]; simp only [hF]
  go_wp2_with fail
  refine (HRP.out _).mono ?_; rintro e wx ⟨rfl,hb9⟩
  go_wp2
  exact ⟨rfl,⟨rfl,z09 hC hb9⟩,.inr hb9,.inr (.inl (by simp))⟩
 ·
  intro vals x9 hC hF; have hC:=hC.resolve_left (by simp); have hsz:=hC.size; have e1 : x9.cell? _ = _:=d2 ⟨x9,hC⟩; have e2 : x9.cell? _ = _:=d3 ⟨x9,hC⟩; simp only [z01,Act.put,zQ]
  go_wp2
  exact ⟨rfl,rfl,.inr (Below.refl _ _),.inr (.inl (by simp))⟩
 ·
  intro vals x9 hC hF; have hC:=hC.resolve_left (by simp); have hsz:=hC.size; simp only [z0c,zR,Fact.eq,Fact.row,Fact.lit,Fact.lit0,Fact.of,and_true,Fact.u64B] at hF; simp only [z01,Act.put,zQ]; simp only [hF]
  go_wp2_with fail
  refine (HRQ.out _).mono ?_; rintro e wx ⟨rfl,hb9⟩
  go_wp2
  exact ⟨rfl,⟨rfl,z09 hC hb9⟩,.inr hb9,.inr (.inl (by simp))⟩
 ·
  intro vals x9 hC hF; have hC:=hC.resolve_left (by simp); have hsz:=hC.size; simp only [z0c,zR,Fact.eq,Fact.row,Fact.lit,Fact.lit0,Fact.of,and_true,Fact.u64B] at hF; obtain ⟨⟨e1,hb1⟩,e2,hb2⟩:=hF; simp only [z01,Act.put,zQ]; simp only [e1,e2]; have hx:=HX.out
  go_wp2
  exact ⟨rfl,⟨rfl,hb2⟩,.inr (Below.refl _ _),.inr (.inl (by simp))⟩
 ·
  intro vals x9 hC hF; have hC:=hC.resolve_left (by simp); have hsz:=hC.size; simp only [z0c,zR,Fact.eq,Fact.row,Fact.lit,Fact.lit0,Fact.of,and_true,Fact.u64B] at hF; obtain ⟨e1,hb1⟩:=hF; simp only [z01,Act.put,zQ]; simp only [e1]
  go_wp2
  exact ⟨rfl,⟨rfl,hb1⟩,.inr (Below.refl _ _),.inr (.inl (by simp))⟩
 ·
  intro vals x9 hF; simp only [facts,zR,Fact.eq,Fact.row,Fact.lit,Fact.lit0,Fact.of,and_true,Fact.u64B] at hF; obtain ⟨e1,hb1⟩:=hF; simp only [z01,Act.put,zQ]; simp only [e1]; have HW9:=zH (z09 HW.out hb1); clear e1 hb1
  go_wp2
  go_ret
  exact ⟨rfl,HW9.out⟩
set_option maxRecDepth 100000 in
set_option maxHeartbeats 2000000 in
theorem raw_4 (m p q : Nat) (w : World) (hm : 1 <= m) (hm4 : m <= 4) (hp : p < 16) (hq : q < 16) (hp2 : p < 2 ^ m) :
  Calls Tryz.prog 54 #[(.agg #[.int .i64 (m : Int),.int .i64 (p : Int)]),(.agg #[.int .i64 (m : Int),.int .i64 (q : Int)])] w fun e w' => e = .returned (.int .u64 ((rawN 4 m p q : Nat) : Int)) /\ Below w.heap.size w w':=by
 obtain ⟨hW,hB0,hB1,hWS⟩:=z0p w (.cells #[.int .i64 (m : Int),.int .i64 (p : Int)] 24) (.cells #[.int .i64 (m : Int),.int .i64 (q : Int)] 24); have HW:=zH hW; have HB0:=zH hB0; have HB1:=zH hB1; have HRP:=zH (fun z => z1c m p z (by omega) (by omega)); have HRQ:=zH (fun z => z1c m q z (by omega) (by omega)); obtain ⟨R,hR⟩ : ∃ R : Nat,R = rawN 4 m p q:=⟨_,rfl⟩; have HR:=zH hR; have HX : Hid (bits .or .u64 (p : Int) q = (R : Int)):=zH (by rw [HR.out]; exact bits_or_u64_nat p q (by omega) (by omega)); rw [<- hR]; clear hR; clear hW hB0 hB1 hWS
 go_enter Tryz.func54,Tryz.ntmps54
 go_wp2
 generalize hw1 : (w.alloc (.cells #[.int .i64 (m : Int),.int .i64 (p : Int)] 24)).alloc (.cells #[.int .i64 (m : Int),.int .i64 (q : Int)] 24) = w1 at *; clear hw1; have d0:=z0f.cell (z00 HB0.out 0).1; have d1:=z0f.cell (z00 HB0.out 1).1; have d2:=z0f.cell (z00 HB1.out 0).1; have d3:=z0f.cell (z00 HB1.out 1).1; refine z0d [[],[(0,5)],[],[(2,7)],[(1,6),(3,8)],[(4,9)]]
  [.eq (.agg #[.int .i64 (m : Int),.int .i64 (p : Int)]),Fact.u64B w1 (p : Int),.eq (.agg #[.int .i64 (m : Int),.int .i64 (q : Int)]),Fact.u64B w1 (q : Int),Fact.u64B w1 (R : Int),Fact.u64B w1 (R : Int)]
  [] [] [] [5] [(0,5),(1,6),(2,7),(3,8),(4,9),(5,4)] (by kernel_rfl) (by kernel_rfl) (by kernel_rfl) (by kernel_rfl)
  ⟨?_,?_,?_,?_,?_,?_,trivial⟩ ?_
 ·
  intro vals x9 hC hF; have hC:=hC.resolve_left (by simp); have hsz:=hC.size; have e1 : x9.cell? _ = _:=d0 ⟨x9,hC⟩; have e2 : x9.cell? _ = _:=d1 ⟨x9,hC⟩; simp only [z01,Act.put,zQ]
  go_wp2
  exact ⟨rfl,rfl,.inr (Below.refl _ _),.inr (.inl (by simp))⟩
 ·
  intro vals x9 hC hF; have hC:=hC.resolve_left (by simp); have hsz:=hC.size; simp only [z0c,zR,Fact.eq,Fact.row,Fact.lit,Fact.lit0,Fact.of,and_true,Fact.u64B] at hF; simp only [z01,Act.put,zQ]; simp only [hF]
  go_wp2_with fail
  refine (HRP.out _).mono ?_; rintro e wx ⟨rfl,hb9⟩
  go_wp2
  exact ⟨rfl,⟨rfl,z09 hC hb9⟩,.inr hb9,.inr (.inl (by simp))⟩
 ·
  intro vals x9 hC hF; have hC:=hC.resolve_left (by simp); have hsz:=hC.size; have e1 : x9.cell? _ = _:=d2 ⟨x9,hC⟩; have e2 : x9.cell? _ = _:=d3 ⟨x9,hC⟩; simp only [z01,Act.put,zQ]
  go_wp2
  exact ⟨rfl,rfl,.inr (Below.refl _ _),.inr (.inl (by simp))⟩
 ·
  intro vals x9 hC hF; have hC:=hC.resolve_left (by simp); have hsz:=hC.size; simp only [z0c,zR,Fact.eq,Fact.row,Fact.lit,Fact.lit0,Fact.of,and_true,Fact.u64B] at hF; simp only [z01,Act.put,zQ]; simp only [hF]
  go_wp2_with fail
  refine (HRQ.out _).mono ?_; rintro e wx ⟨rfl,hb9⟩
  go_wp2
  exact ⟨rfl,⟨rfl,z09 hC hb9⟩,.inr hb9,.inr (.inl (by simp))⟩
 ·
  intro vals x9 hC hF; have hC:=hC.resolve_left (by simp); have hsz:=hC.size; simp only [z0c,zR,Fact.eq,Fact.row,Fact.lit,Fact.lit0,Fact.of,and_true,Fact.u64B] at hF; obtain ⟨⟨e1,hb1⟩,e2,hb2⟩:=hF; simp only [z01,Act.put,zQ]; simp only [e1,e2]; have hx:=HX.out
  go_wp2
  exact ⟨rfl,⟨rfl,hb2⟩,.inr (Below.refl _ _),.inr (.inl (by simp))⟩
 ·
  intro vals x9 hC hF; have hC:=hC.resolve_left (by simp); have hsz:=hC.size; simp only [z0c,zR,Fact.eq,Fact.row,Fact.lit,Fact.lit0,Fact.of,and_true,Fact.u64B] at hF; obtain ⟨e1,hb1⟩:=hF; simp only [z01,Act.put,zQ]; simp only [e1]
  go_wp2
  exact ⟨rfl,⟨rfl,hb1⟩,.inr (Below.refl _ _),.inr (.inl (by simp))⟩
 ·
  intro vals x9 hF; simp only [facts,zR,Fact.eq,Fact.row,Fact.lit,Fact.lit0,Fact.of,and_true,Fact.u64B] at hF; obtain ⟨e1,hb1⟩:=hF; simp only [z01,Act.put,zQ]; simp only [e1]; have HW9:=zH (z09 HW.out hb1); clear e1 hb1
  go_wp2
  go_ret
  exact ⟨rfl,HW9.out⟩
set_option maxRecDepth 100000 in
set_option maxHeartbeats 2000000 in
theorem raw_5 (m p q : Nat) (w : World) (hm : 1 <= m) (hm4 : m <= 4) (hp : p < 16) (hq : q < 16) (hp2 : p < 2 ^ m) :
  Calls Tryz.prog 55 #[(.agg #[.int .i64 (m : Int),.int .i64 (p : Int)]),(.agg #[.int .i64 (m : Int),.int .i64 (q : Int)])] w fun e w' => e = .returned (.int .u64 ((rawN 5 m p q : Nat) : Int)) /\ Below w.heap.size w w':=by
 obtain ⟨hW,hB0,hB1,hWS⟩:=z0p w (.cells #[.int .i64 (m : Int),.int .i64 (p : Int)] 24) (.cells #[.int .i64 (m : Int),.int .i64 (q : Int)] 24); have HW:=zH hW; have HB0:=zH hB0; have HB1:=zH hB1; have HRP:=zH (fun z => z1c m p z (by omega) (by omega)); have HRQ:=zH (fun z => z1c m q z (by omega) (by omega)); obtain ⟨R,hR⟩ : ∃ R : Nat,R = rawN 5 m p q:=⟨_,rfl⟩; have HR:=zH hR; have HX : Hid (bits .xor .u64 (p : Int) q = (R : Int)):=zH (by rw [HR.out]; exact bits_xor_u64_nat p q (by omega) (by omega)); rw [<- hR]; clear hR; clear hW hB0 hB1 hWS
 go_enter Tryz.func55,Tryz.ntmps55
 go_wp2
 generalize hw1 : (w.alloc (.cells #[.int .i64 (m : Int),.int .i64 (p : Int)] 24)).alloc (.cells #[.int .i64 (m : Int),.int .i64 (q : Int)] 24) = w1 at *; clear hw1; have d0:=z0f.cell (z00 HB0.out 0).1; have d1:=z0f.cell (z00 HB0.out 1).1; have d2:=z0f.cell (z00 HB1.out 0).1; have d3:=z0f.cell (z00 HB1.out 1).1; refine z0d [[],[(0,5)],[],[(2,7)],[(1,6),(3,8)],[(4,9)]]
  [.eq (.agg #[.int .i64 (m : Int),.int .i64 (p : Int)]),Fact.u64B w1 (p : Int),.eq (.agg #[.int .i64 (m : Int),.int .i64 (q : Int)]),Fact.u64B w1 (q : Int),Fact.u64B w1 (R : Int),Fact.u64B w1 (R : Int)]
  [] [] [] [5] [(0,5),(1,6),(2,7),(3,8),(4,9),(5,4)] (by kernel_rfl) (by kernel_rfl) (by kernel_rfl) (by kernel_rfl)
  ⟨?_,?_,?_,?_,?_,?_,trivial⟩ ?_
 ·
  intro vals x9 hC hF; have hC:=hC.resolve_left (by simp); have hsz:=hC.size; have e1 : x9.cell? _ = _:=d0 ⟨x9,hC⟩; have e2 : x9.cell? _ = _:=d1 ⟨x9,hC⟩; simp only [z01,Act.put,zQ]
  go_wp2
  exact ⟨rfl,rfl,.inr (Below.refl _ _),.inr (.inl (by simp))⟩
 ·
  intro vals x9 hC hF; have hC:=hC.resolve_left (by simp); have hsz:=hC.size; simp only [z0c,zR,Fact.eq,Fact.row,Fact.lit,Fact.lit0,Fact.of,and_true,Fact.u64B] at hF; simp only [z01,Act.put,zQ]; simp only [hF]
  go_wp2_with fail
  refine (HRP.out _).mono ?_; rintro e wx ⟨rfl,hb9⟩
  go_wp2
  exact ⟨rfl,⟨rfl,z09 hC hb9⟩,.inr hb9,.inr (.inl (by simp))⟩
 ·
  intro vals x9 hC hF; have hC:=hC.resolve_left (by simp); have hsz:=hC.size; have e1 : x9.cell? _ = _:=d2 ⟨x9,hC⟩; have e2 : x9.cell? _ = _:=d3 ⟨x9,hC⟩; simp only [z01,Act.put,zQ]
  go_wp2
  exact ⟨rfl,rfl,.inr (Below.refl _ _),.inr (.inl (by simp))⟩
 ·
  intro vals x9 hC hF; have hC:=hC.resolve_left (by simp); have hsz:=hC.size; simp only [z0c,zR,Fact.eq,Fact.row,Fact.lit,Fact.lit0,Fact.of,and_true,Fact.u64B] at hF; simp only [z01,Act.put,zQ]; simp only [hF]
  go_wp2_with fail
  refine (HRQ.out _).mono ?_; rintro e wx ⟨rfl,hb9⟩
  go_wp2
  exact ⟨rfl,⟨rfl,z09 hC hb9⟩,.inr hb9,.inr (.inl (by simp))⟩
 ·
  intro vals x9 hC hF; have hC:=hC.resolve_left (by simp); have hsz:=hC.size; simp only [z0c,zR,Fact.eq,Fact.row,Fact.lit,Fact.lit0,Fact.of,and_true,Fact.u64B] at hF; obtain ⟨⟨e1,hb1⟩,e2,hb2⟩:=hF; simp only [z01,Act.put,zQ]; simp only [e1,e2]; have hx:=HX.out
  go_wp2
  exact ⟨rfl,⟨rfl,hb2⟩,.inr (Below.refl _ _),.inr (.inl (by simp))⟩
 ·
  intro vals x9 hC hF; have hC:=hC.resolve_left (by simp); have hsz:=hC.size; simp only [z0c,zR,Fact.eq,Fact.row,Fact.lit,Fact.lit0,Fact.of,and_true,Fact.u64B] at hF; obtain ⟨e1,hb1⟩:=hF; simp only [z01,Act.put,zQ]; simp only [e1]
  go_wp2
  exact ⟨rfl,⟨rfl,hb1⟩,.inr (Below.refl _ _),.inr (.inl (by simp))⟩
 ·
  intro vals x9 hF; simp only [facts,zR,Fact.eq,Fact.row,Fact.lit,Fact.lit0,Fact.of,and_true,Fact.u64B] at hF; obtain ⟨e1,hb1⟩:=hF; simp only [z01,Act.put,zQ]; simp only [e1]; have HW9:=zH (z09 HW.out hb1); clear e1 hb1
  go_wp2
  go_ret
  exact ⟨rfl,HW9.out⟩
set_option maxRecDepth 100000 in
set_option maxHeartbeats 2000000 in
theorem raw_6 (m p q : Nat) (w : World) (hm : 1 <= m) (hm4 : m <= 4) (hp : p < 16) (hq : q < 16) (hp2 : p < 2 ^ m) :
  Calls Tryz.prog 56 #[(.agg #[.int .i64 (m : Int),.int .i64 (p : Int)]),(.agg #[.int .i64 (m : Int),.int .i64 (q : Int)])] w fun e w' => e = .returned (.int .u64 ((rawN 6 m p q : Nat) : Int)) /\ Below w.heap.size w w':=by
 obtain ⟨hW,hB0,hB1,hWS⟩:=z0p w (.cells #[.int .i64 (m : Int),.int .i64 (p : Int)] 24) (.cells #[.int .i64 (m : Int),.int .i64 (q : Int)] 24); have HW:=zH hW; have HB0:=zH hB0; have HB1:=zH hB1; have HRP:=zH (fun z => z1c m p z (by omega) (by omega)); have HRQ:=zH (fun z => z1c m q z (by omega) (by omega)); obtain ⟨R,hR⟩ : ∃ R : Nat,R = rawN 6 m p q:=⟨_,rfl⟩; have HR:=zH hR; have HX : Hid ((p : Int) + q = (R : Int)):=zH (by rw [HR.out]; rfl); rw [<- hR]; clear hR; clear hW hB0 hB1 hWS
 go_enter Tryz.func56,Tryz.ntmps56
 go_wp2
 generalize hw1 : (w.alloc (.cells #[.int .i64 (m : Int),.int .i64 (p : Int)] 24)).alloc (.cells #[.int .i64 (m : Int),.int .i64 (q : Int)] 24) = w1 at *; clear hw1; have d0:=z0f.cell (z00 HB0.out 0).1; have d1:=z0f.cell (z00 HB0.out 1).1; have d2:=z0f.cell (z00 HB1.out 0).1; have d3:=z0f.cell (z00 HB1.out 1).1; refine z0d [[],[(0,5)],[],[(2,7)],[(1,6),(3,8)],[(4,9)]]
  [.eq (.agg #[.int .i64 (m : Int),.int .i64 (p : Int)]),Fact.u64B w1 (p : Int),.eq (.agg #[.int .i64 (m : Int),.int .i64 (q : Int)]),Fact.u64B w1 (q : Int),Fact.u64B w1 (R : Int),Fact.u64B w1 (R : Int)]
  [] [] [] [5] [(0,5),(1,6),(2,7),(3,8),(4,9),(5,4)] (by kernel_rfl) (by kernel_rfl) (by kernel_rfl) (by kernel_rfl)
  ⟨?_,?_,?_,?_,?_,?_,trivial⟩ ?_
 ·
  intro vals x9 hC hF; have hC:=hC.resolve_left (by simp); have hsz:=hC.size; have e1 : x9.cell? _ = _:=d0 ⟨x9,hC⟩; have e2 : x9.cell? _ = _:=d1 ⟨x9,hC⟩; simp only [z01,Act.put,zQ]
  go_wp2
  exact ⟨rfl,rfl,.inr (Below.refl _ _),.inr (.inl (by simp))⟩
 ·
  intro vals x9 hC hF; have hC:=hC.resolve_left (by simp); have hsz:=hC.size; simp only [z0c,zR,Fact.eq,Fact.row,Fact.lit,Fact.lit0,Fact.of,and_true,Fact.u64B] at hF; simp only [z01,Act.put,zQ]; simp only [hF]
  go_wp2_with fail
  refine (HRP.out _).mono ?_; rintro e wx ⟨rfl,hb9⟩
  go_wp2
  exact ⟨rfl,⟨rfl,z09 hC hb9⟩,.inr hb9,.inr (.inl (by simp))⟩
 ·
  intro vals x9 hC hF; have hC:=hC.resolve_left (by simp); have hsz:=hC.size; have e1 : x9.cell? _ = _:=d2 ⟨x9,hC⟩; have e2 : x9.cell? _ = _:=d3 ⟨x9,hC⟩; simp only [z01,Act.put,zQ]
  go_wp2
  exact ⟨rfl,rfl,.inr (Below.refl _ _),.inr (.inl (by simp))⟩
 ·
  intro vals x9 hC hF; have hC:=hC.resolve_left (by simp); have hsz:=hC.size; simp only [z0c,zR,Fact.eq,Fact.row,Fact.lit,Fact.lit0,Fact.of,and_true,Fact.u64B] at hF; simp only [z01,Act.put,zQ]; simp only [hF]
  go_wp2_with fail
  refine (HRQ.out _).mono ?_; rintro e wx ⟨rfl,hb9⟩
  go_wp2
  exact ⟨rfl,⟨rfl,z09 hC hb9⟩,.inr hb9,.inr (.inl (by simp))⟩
 ·
  intro vals x9 hC hF; have hC:=hC.resolve_left (by simp); have hsz:=hC.size; simp only [z0c,zR,Fact.eq,Fact.row,Fact.lit,Fact.lit0,Fact.of,and_true,Fact.u64B] at hF; obtain ⟨⟨e1,hb1⟩,e2,hb2⟩:=hF; simp only [z01,Act.put,zQ]; simp only [e1,e2]; have hx:=HX.out
  go_wp2
  exact ⟨rfl,⟨rfl,hb2⟩,.inr (Below.refl _ _),.inr (.inl (by simp))⟩
 ·
  intro vals x9 hC hF; have hC:=hC.resolve_left (by simp); have hsz:=hC.size; simp only [z0c,zR,Fact.eq,Fact.row,Fact.lit,Fact.lit0,Fact.of,and_true,Fact.u64B] at hF; obtain ⟨e1,hb1⟩:=hF; simp only [z01,Act.put,zQ]; simp only [e1]
  go_wp2
  exact ⟨rfl,⟨rfl,hb1⟩,.inr (Below.refl _ _),.inr (.inl (by simp))⟩
 ·
  intro vals x9 hF; simp only [facts,zR,Fact.eq,Fact.row,Fact.lit,Fact.lit0,Fact.of,and_true,Fact.u64B] at hF; obtain ⟨e1,hb1⟩:=hF; simp only [z01,Act.put,zQ]; simp only [e1]; have HW9:=zH (z09 HW.out hb1); clear e1 hb1
  go_wp2
  go_ret
  exact ⟨rfl,HW9.out⟩
set_option maxRecDepth 100000 in
set_option maxHeartbeats 2000000 in
theorem raw_7 (m p q : Nat) (w : World) (hm : 1 <= m) (hm4 : m <= 4) (hp : p < 16) (hq : q < 16) (hp2 : p < 2 ^ m) :
  Calls Tryz.prog 57 #[(.agg #[.int .i64 (m : Int),.int .i64 (p : Int)]),(.agg #[.int .i64 (m : Int),.int .i64 (q : Int)])] w fun e w' => e = .returned (.int .u64 ((rawN 7 m p q : Nat) : Int)) /\ Below w.heap.size w w':=by
 obtain ⟨hW,hB0,hB1,hWS⟩:=z0p w (.cells #[.int .i64 (m : Int),.int .i64 (p : Int)] 24) (.cells #[.int .i64 (m : Int),.int .i64 (q : Int)] 24); have HW:=zH hW; have HB0:=zH hB0; have HB1:=zH hB1; have HRP:=zH (fun z => z1c m p z (by omega) (by omega)); have HRQ:=zH (fun z => z1c m q z (by omega) (by omega)); obtain ⟨R,hR⟩ : ∃ R : Nat,R = rawN 7 m p q:=⟨_,rfl⟩; have HR:=zH hR; have HX : Hid (IntKind.u64.wrap ((p : Int) - q) = (R : Int)):=zH (by rw [HR.out,IntKind.wrap_u64]; show _ = (((p + (18446744073709551616 - q)) % 18446744073709551616 : Nat) : Int); omega); rw [<- hR]; clear hR; clear hW hB0 hB1 hWS
 go_enter Tryz.func57,Tryz.ntmps57
 go_wp2
 generalize hw1 : (w.alloc (.cells #[.int .i64 (m : Int),.int .i64 (p : Int)] 24)).alloc (.cells #[.int .i64 (m : Int),.int .i64 (q : Int)] 24) = w1 at *; clear hw1; have d0:=z0f.cell (z00 HB0.out 0).1; have d1:=z0f.cell (z00 HB0.out 1).1; have d2:=z0f.cell (z00 HB1.out 0).1; have d3:=z0f.cell (z00 HB1.out 1).1; refine z0d [[],[(0,5)],[],[(2,7)],[(1,6),(3,8)],[(4,9)]]
  [.eq (.agg #[.int .i64 (m : Int),.int .i64 (p : Int)]),Fact.u64B w1 (p : Int),.eq (.agg #[.int .i64 (m : Int),.int .i64 (q : Int)]),Fact.u64B w1 (q : Int),Fact.u64B w1 (R : Int),Fact.u64B w1 (R : Int)]
  [] [] [] [5] [(0,5),(1,6),(2,7),(3,8),(4,9),(5,4)] (by kernel_rfl) (by kernel_rfl) (by kernel_rfl) (by kernel_rfl)
  ⟨?_,?_,?_,?_,?_,?_,trivial⟩ ?_
 ·
  intro vals x9 hC hF; have hC:=hC.resolve_left (by simp); have hsz:=hC.size; have e1 : x9.cell? _ = _:=d0 ⟨x9,hC⟩; have e2 : x9.cell? _ = _:=d1 ⟨x9,hC⟩; simp only [z01,Act.put,zQ]
  go_wp2
  exact ⟨rfl,rfl,.inr (Below.refl _ _),.inr (.inl (by simp))⟩
 ·
  intro vals x9 hC hF; have hC:=hC.resolve_left (by simp); have hsz:=hC.size; simp only [z0c,zR,Fact.eq,Fact.row,Fact.lit,Fact.lit0,Fact.of,and_true,Fact.u64B] at hF; simp only [z01,Act.put,zQ]; simp only [hF]
  go_wp2_with fail
  refine (HRP.out _).mono ?_; rintro e wx ⟨rfl,hb9⟩
  go_wp2
  exact ⟨rfl,⟨rfl,z09 hC hb9⟩,.inr hb9,.inr (.inl (by simp))⟩
 ·
  intro vals x9 hC hF; have hC:=hC.resolve_left (by simp); have hsz:=hC.size; have e1 : x9.cell? _ = _:=d2 ⟨x9,hC⟩; have e2 : x9.cell? _ = _:=d3 ⟨x9,hC⟩; simp only [z01,Act.put,zQ]
  go_wp2
  exact ⟨rfl,rfl,.inr (Below.refl _ _),.inr (.inl (by simp))⟩
 ·
  intro vals x9 hC hF; have hC:=hC.resolve_left (by simp); have hsz:=hC.size; simp only [z0c,zR,Fact.eq,Fact.row,Fact.lit,Fact.lit0,Fact.of,and_true,Fact.u64B] at hF; simp only [z01,Act.put,zQ]; simp only [hF]
  go_wp2_with fail
  refine (HRQ.out _).mono ?_; rintro e wx ⟨rfl,hb9⟩
  go_wp2
  exact ⟨rfl,⟨rfl,z09 hC hb9⟩,.inr hb9,.inr (.inl (by simp))⟩
 ·
  intro vals x9 hC hF; have hC:=hC.resolve_left (by simp); have hsz:=hC.size; simp only [z0c,zR,Fact.eq,Fact.row,Fact.lit,Fact.lit0,Fact.of,and_true,Fact.u64B] at hF; obtain ⟨⟨e1,hb1⟩,e2,hb2⟩:=hF; simp only [z01,Act.put,zQ]; simp only [e1,e2]; have hx:=HX.out
  go_wp2
  exact ⟨rfl,⟨rfl,hb2⟩,.inr (Below.refl _ _),.inr (.inl (by simp))⟩
 ·
  intro vals x9 hC hF; have hC:=hC.resolve_left (by simp); have hsz:=hC.size; simp only [z0c,zR,Fact.eq,Fact.row,Fact.lit,Fact.lit0,Fact.of,and_true,Fact.u64B] at hF; obtain ⟨e1,hb1⟩:=hF; simp only [z01,Act.put,zQ]; simp only [e1]
  go_wp2
  exact ⟨rfl,⟨rfl,hb1⟩,.inr (Below.refl _ _),.inr (.inl (by simp))⟩
 ·
  intro vals x9 hF; simp only [facts,zR,Fact.eq,Fact.row,Fact.lit,Fact.lit0,Fact.of,and_true,Fact.u64B] at hF; obtain ⟨e1,hb1⟩:=hF; simp only [z01,Act.put,zQ]; simp only [e1]; have HW9:=zH (z09 HW.out hb1); clear e1 hb1
  go_wp2
  go_ret
  exact ⟨rfl,HW9.out⟩
set_option maxRecDepth 100000 in
set_option maxHeartbeats 2000000 in
theorem raw_8 (m p q : Nat) (w : World) (hm : 1 <= m) (hm4 : m <= 4) (hp : p < 16) (hq : q < 16) (hp2 : p < 2 ^ m) :
  Calls Tryz.prog 58 #[(.agg #[.int .i64 (m : Int),.int .i64 (p : Int)]),(.agg #[.int .i64 (m : Int),.int .i64 (q : Int)])] w fun e w' => e = .returned (.int .u64 ((rawN 8 m p q : Nat) : Int)) /\ Below w.heap.size w w':=by
 obtain ⟨hW,hB0,hB1,hWS⟩:=z0p w (.cells #[.int .i64 (m : Int),.int .i64 (p : Int)] 24) (.cells #[.int .i64 (m : Int),.int .i64 (q : Int)] 24); have HW:=zH hW; have HB0:=zH hB0; have HB1:=zH hB1; have HRP:=zH (fun z => z1c m p z (by omega) (by omega)); have HRQ:=zH (fun z => z1c m q z (by omega) (by omega)); obtain ⟨R,hR⟩ : ∃ R : Nat,R = rawN 8 m p q:=⟨_,rfl⟩; have HR:=zH hR; have HX : Hid (IntKind.u64.wrap ((p : Int) * q) = (R : Int)):=zH (by rw [HR.out,IntKind.wrap_u64]; have h9 : p * q < 16 * 16:=Nat.mul_lt_mul'' hp hq; show _ = ((p * q : Nat) : Int); have h8 : ((p : Int) * q) = ((p * q : Nat) : Int):=(by simp); omega); rw [<- hR]; clear hR; clear hW hB0 hB1 hWS
 go_enter Tryz.func58,Tryz.ntmps58
 go_wp2
 generalize hw1 : (w.alloc (.cells #[.int .i64 (m : Int),.int .i64 (p : Int)] 24)).alloc (.cells #[.int .i64 (m : Int),.int .i64 (q : Int)] 24) = w1 at *; clear hw1; have d0:=z0f.cell (z00 HB0.out 0).1; have d1:=z0f.cell (z00 HB0.out 1).1; have d2:=z0f.cell (z00 HB1.out 0).1; have d3:=z0f.cell (z00 HB1.out 1).1; refine z0d [[],[(0,5)],[],[(2,7)],[(1,6),(3,8)],[(4,9)]]
  [.eq (.agg #[.int .i64 (m : Int),.int .i64 (p : Int)]),Fact.u64B w1 (p : Int),.eq (.agg #[.int .i64 (m : Int),.int .i64 (q : Int)]),Fact.u64B w1 (q : Int),Fact.u64B w1 (R : Int),Fact.u64B w1 (R : Int)]
  [] [] [] [5] [(0,5),(1,6),(2,7),(3,8),(4,9),(5,4)] (by kernel_rfl) (by kernel_rfl) (by kernel_rfl) (by kernel_rfl)
  ⟨?_,?_,?_,?_,?_,?_,trivial⟩ ?_
 ·
  intro vals x9 hC hF; have hC:=hC.resolve_left (by simp); have hsz:=hC.size; have e1 : x9.cell? _ = _:=d0 ⟨x9,hC⟩; have e2 : x9.cell? _ = _:=d1 ⟨x9,hC⟩; simp only [z01,Act.put,zQ]
  go_wp2
  exact ⟨rfl,rfl,.inr (Below.refl _ _),.inr (.inl (by simp))⟩
 ·
  intro vals x9 hC hF; have hC:=hC.resolve_left (by simp); have hsz:=hC.size; simp only [z0c,zR,Fact.eq,Fact.row,Fact.lit,Fact.lit0,Fact.of,and_true,Fact.u64B] at hF; simp only [z01,Act.put,zQ]; simp only [hF]
  go_wp2_with fail
  refine (HRP.out _).mono ?_; rintro e wx ⟨rfl,hb9⟩
  go_wp2
  exact ⟨rfl,⟨rfl,z09 hC hb9⟩,.inr hb9,.inr (.inl (by simp))⟩
 ·
  intro vals x9 hC hF; have hC:=hC.resolve_left (by simp); have hsz:=hC.size; have e1 : x9.cell? _ = _:=d2 ⟨x9,hC⟩; have e2 : x9.cell? _ = _:=d3 ⟨x9,hC⟩; simp only [z01,Act.put,zQ]
  go_wp2
  exact ⟨rfl,rfl,.inr (Below.refl _ _),.inr (.inl (by simp))⟩
 ·
  intro vals x9 hC hF; have hC:=hC.resolve_left (by simp); have hsz:=hC.size; simp only [z0c,zR,Fact.eq,Fact.row,Fact.lit,Fact.lit0,Fact.of,and_true,Fact.u64B] at hF; simp only [z01,Act.put,zQ]; simp only [hF]
  go_wp2_with fail
  refine (HRQ.out _).mono ?_; rintro e wx ⟨rfl,hb9⟩
  go_wp2
  exact ⟨rfl,⟨rfl,z09 hC hb9⟩,.inr hb9,.inr (.inl (by simp))⟩
 ·
  intro vals x9 hC hF; have hC:=hC.resolve_left (by simp); have hsz:=hC.size; simp only [z0c,zR,Fact.eq,Fact.row,Fact.lit,Fact.lit0,Fact.of,and_true,Fact.u64B] at hF; obtain ⟨⟨e1,hb1⟩,e2,hb2⟩:=hF; simp only [z01,Act.put,zQ]; simp only [e1,e2]; have hx:=HX.out
  go_wp2
  exact ⟨rfl,⟨rfl,hb2⟩,.inr (Below.refl _ _),.inr (.inl (by simp))⟩
 ·
  intro vals x9 hC hF; have hC:=hC.resolve_left (by simp); have hsz:=hC.size; simp only [z0c,zR,Fact.eq,Fact.row,Fact.lit,Fact.lit0,Fact.of,and_true,Fact.u64B] at hF; obtain ⟨e1,hb1⟩:=hF; simp only [z01,Act.put,zQ]; simp only [e1]
  go_wp2
  exact ⟨rfl,⟨rfl,hb1⟩,.inr (Below.refl _ _),.inr (.inl (by simp))⟩
 ·
  intro vals x9 hF; simp only [facts,zR,Fact.eq,Fact.row,Fact.lit,Fact.lit0,Fact.of,and_true,Fact.u64B] at hF; obtain ⟨e1,hb1⟩:=hF; simp only [z01,Act.put,zQ]; simp only [e1]; have HW9:=zH (z09 HW.out hb1); clear e1 hb1
  go_wp2
  go_ret
  exact ⟨rfl,HW9.out⟩
set_option maxRecDepth 100000 in
set_option maxHeartbeats 2000000 in
theorem raw_11 (m p q : Nat) (w : World) (hm : 1 <= m) (hm4 : m <= 4) (hp : p < 16) (hq : q < 16) (hp2 : p < 2 ^ m) :
  Calls Tryz.prog 62 #[(.agg #[.int .i64 (m : Int),.int .i64 (p : Int)]),(.agg #[.int .i64 (m : Int),.int .i64 (q : Int)])] w fun e w' => e = .returned (.int .u64 ((rawN 11 m p q : Nat) : Int)) /\ Below w.heap.size w w':=by
 obtain ⟨hW,hB0,hB1,hWS⟩:=z0p w (.cells #[.int .i64 (m : Int),.int .i64 (p : Int)] 24) (.cells #[.int .i64 (m : Int),.int .i64 (q : Int)] 24); have HW:=zH hW; have HB0:=zH hB0; have HB1:=zH hB1; have HRP:=zH (fun z => z1c m p z (by omega) (by omega)); have HRQ:=zH (fun z => z1c m q z (by omega) (by omega)); obtain ⟨R,hR⟩ : ∃ R : Nat,R = rawN 11 m p q:=⟨_,rfl⟩; have HR:=zH hR; have HX : Hid (IntKind.u64.wrap ((p : Int) * 2 ^ q) = (R : Int)):=zH (by rw [HR.out,IntKind.wrap_u64]; have h9 : 2 ^ q <= 2 ^ 15:=Nat.pow_le_pow_right (by omega) (by omega); have h7 : p * 2 ^ q <= 16 * 2 ^ 15:=Nat.mul_le_mul (by omega) h9; show _ = ((p * 2 ^ q : Nat) : Int); have h8 : ((p : Int) * 2 ^ q) = ((p * 2 ^ q : Nat) : Int):=(by simp); omega); rw [<- hR]; clear hR; clear hW hB0 hB1 hWS
 go_enter Tryz.func62,Tryz.ntmps62
 go_wp2
 generalize hw1 : (w.alloc (.cells #[.int .i64 (m : Int),.int .i64 (p : Int)] 24)).alloc (.cells #[.int .i64 (m : Int),.int .i64 (q : Int)] 24) = w1 at *; clear hw1; have d0:=z0f.cell (z00 HB0.out 0).1; have d1:=z0f.cell (z00 HB0.out 1).1; have d2:=z0f.cell (z00 HB1.out 0).1; have d3:=z0f.cell (z00 HB1.out 1).1; refine z0d [[],[(0,5)],[],[(2,7)],[(1,6),(3,8)],[(4,9)]]
  [.eq (.agg #[.int .i64 (m : Int),.int .i64 (p : Int)]),Fact.u64B w1 (p : Int),.eq (.agg #[.int .i64 (m : Int),.int .i64 (q : Int)]),Fact.u64B w1 (q : Int),Fact.u64B w1 (R : Int),Fact.u64B w1 (R : Int)]
  [] [] [] [5] [(0,5),(1,6),(2,7),(3,8),(4,9),(5,4)] (by kernel_rfl) (by kernel_rfl) (by kernel_rfl) (by kernel_rfl)
  ⟨?_,?_,?_,?_,?_,?_,trivial⟩ ?_
 ·
  intro vals x9 hC hF; have hC:=hC.resolve_left (by simp); have hsz:=hC.size; have e1 : x9.cell? _ = _:=d0 ⟨x9,hC⟩; have e2 : x9.cell? _ = _:=d1 ⟨x9,hC⟩; simp only [z01,Act.put,zQ]
  go_wp2
  exact ⟨rfl,rfl,.inr (Below.refl _ _),.inr (.inl (by simp))⟩
 ·
  intro vals x9 hC hF; have hC:=hC.resolve_left (by simp); have hsz:=hC.size; simp only [z0c,zR,Fact.eq,Fact.row,Fact.lit,Fact.lit0,Fact.of,and_true,Fact.u64B] at hF; simp only [z01,Act.put,zQ]; simp only [hF]
  go_wp2_with fail
  refine (HRP.out _).mono ?_; rintro e wx ⟨rfl,hb9⟩
  go_wp2
  exact ⟨rfl,⟨rfl,z09 hC hb9⟩,.inr hb9,.inr (.inl (by simp))⟩
 ·
  intro vals x9 hC hF; have hC:=hC.resolve_left (by simp); have hsz:=hC.size; have e1 : x9.cell? _ = _:=d2 ⟨x9,hC⟩; have e2 : x9.cell? _ = _:=d3 ⟨x9,hC⟩; simp only [z01,Act.put,zQ]
  go_wp2
  exact ⟨rfl,rfl,.inr (Below.refl _ _),.inr (.inl (by simp))⟩
 ·
  intro vals x9 hC hF; have hC:=hC.resolve_left (by simp); have hsz:=hC.size; simp only [z0c,zR,Fact.eq,Fact.row,Fact.lit,Fact.lit0,Fact.of,and_true,Fact.u64B] at hF; simp only [z01,Act.put,zQ]; simp only [hF]
  go_wp2_with fail
  refine (HRQ.out _).mono ?_; rintro e wx ⟨rfl,hb9⟩
  go_wp2
  exact ⟨rfl,⟨rfl,z09 hC hb9⟩,.inr hb9,.inr (.inl (by simp))⟩
 ·
  intro vals x9 hC hF; have hC:=hC.resolve_left (by simp); have hsz:=hC.size; simp only [z0c,zR,Fact.eq,Fact.row,Fact.lit,Fact.lit0,Fact.of,and_true,Fact.u64B] at hF; obtain ⟨⟨e1,hb1⟩,e2,hb2⟩:=hF; simp only [z01,Act.put,zQ]; simp only [e1,e2]; have hx:=HX.out
  go_wp2
  exact ⟨rfl,⟨rfl,hb2⟩,.inr (Below.refl _ _),.inr (.inl (by simp))⟩
 ·
  intro vals x9 hC hF; have hC:=hC.resolve_left (by simp); have hsz:=hC.size; simp only [z0c,zR,Fact.eq,Fact.row,Fact.lit,Fact.lit0,Fact.of,and_true,Fact.u64B] at hF; obtain ⟨e1,hb1⟩:=hF; simp only [z01,Act.put,zQ]; simp only [e1]
  go_wp2
  exact ⟨rfl,⟨rfl,hb1⟩,.inr (Below.refl _ _),.inr (.inl (by simp))⟩
 ·
  intro vals x9 hF; simp only [facts,zR,Fact.eq,Fact.row,Fact.lit,Fact.lit0,Fact.of,and_true,Fact.u64B] at hF; obtain ⟨e1,hb1⟩:=hF; simp only [z01,Act.put,zQ]; simp only [e1]; have HW9:=zH (z09 HW.out hb1); clear e1 hb1
  go_wp2
  go_ret
  exact ⟨rfl,HW9.out⟩
set_option maxRecDepth 100000 in
set_option maxHeartbeats 2000000 in
theorem raw_12 (m p q : Nat) (w : World) (hm : 1 <= m) (hm4 : m <= 4) (hp : p < 16) (hq : q < 16) (hp2 : p < 2 ^ m) :
  Calls Tryz.prog 63 #[(.agg #[.int .i64 (m : Int),.int .i64 (p : Int)]),(.agg #[.int .i64 (m : Int),.int .i64 (q : Int)])] w fun e w' => e = .returned (.int .u64 ((rawN 12 m p q : Nat) : Int)) /\ Below w.heap.size w w':=by
 obtain ⟨hW,hB0,hB1,hWS⟩:=z0p w (.cells #[.int .i64 (m : Int),.int .i64 (p : Int)] 24) (.cells #[.int .i64 (m : Int),.int .i64 (q : Int)] 24); have HW:=zH hW; have HB0:=zH hB0; have HB1:=zH hB1; have HRP:=zH (fun z => z1c m p z (by omega) (by omega)); have HRQ:=zH (fun z => z1c m q z (by omega) (by omega)); obtain ⟨R,hR⟩ : ∃ R : Nat,R = rawN 12 m p q:=⟨_,rfl⟩; have HR:=zH hR; have HX : Hid ((p : Int) / 2 ^ q = (R : Int)):=zH (by rw [HR.out]; show _ = ((p / 2 ^ q : Nat) : Int); simp); rw [<- hR]; clear hR; clear hW hB0 hB1 hWS
 go_enter Tryz.func63,Tryz.ntmps63
 go_wp2
 generalize hw1 : (w.alloc (.cells #[.int .i64 (m : Int),.int .i64 (p : Int)] 24)).alloc (.cells #[.int .i64 (m : Int),.int .i64 (q : Int)] 24) = w1 at *; clear hw1; have d0:=z0f.cell (z00 HB0.out 0).1; have d1:=z0f.cell (z00 HB0.out 1).1; have d2:=z0f.cell (z00 HB1.out 0).1; have d3:=z0f.cell (z00 HB1.out 1).1; refine z0d [[],[(0,5)],[],[(2,7)],[(1,6),(3,8)],[(4,9)]]
  [.eq (.agg #[.int .i64 (m : Int),.int .i64 (p : Int)]),Fact.u64B w1 (p : Int),.eq (.agg #[.int .i64 (m : Int),.int .i64 (q : Int)]),Fact.u64B w1 (q : Int),Fact.u64B w1 (R : Int),Fact.u64B w1 (R : Int)]
  [] [] [] [5] [(0,5),(1,6),(2,7),(3,8),(4,9),(5,4)] (by kernel_rfl) (by kernel_rfl) (by kernel_rfl) (by kernel_rfl)
  ⟨?_,?_,?_,?_,?_,?_,trivial⟩ ?_
 ·
  intro vals x9 hC hF; have hC:=hC.resolve_left (by simp); have hsz:=hC.size; have e1 : x9.cell? _ = _:=d0 ⟨x9,hC⟩; have e2 : x9.cell? _ = _:=d1 ⟨x9,hC⟩; simp only [z01,Act.put,zQ]
  go_wp2
  exact ⟨rfl,rfl,.inr (Below.refl _ _),.inr (.inl (by simp))⟩
 ·
  intro vals x9 hC hF; have hC:=hC.resolve_left (by simp); have hsz:=hC.size; simp only [z0c,zR,Fact.eq,Fact.row,Fact.lit,Fact.lit0,Fact.of,and_true,Fact.u64B] at hF; simp only [z01,Act.put,zQ]; simp only [hF]
  go_wp2_with fail
  refine (HRP.out _).mono ?_; rintro e wx ⟨rfl,hb9⟩
  go_wp2
  exact ⟨rfl,⟨rfl,z09 hC hb9⟩,.inr hb9,.inr (.inl (by simp))⟩
 ·
  intro vals x9 hC hF; have hC:=hC.resolve_left (by simp); have hsz:=hC.size; have e1 : x9.cell? _ = _:=d2 ⟨x9,hC⟩; have e2 : x9.cell? _ = _:=d3 ⟨x9,hC⟩; simp only [z01,Act.put,zQ]
  go_wp2
  exact ⟨rfl,rfl,.inr (Below.refl _ _),.inr (.inl (by simp))⟩
 ·
  intro vals x9 hC hF; have hC:=hC.resolve_left (by simp); have hsz:=hC.size; simp only [z0c,zR,Fact.eq,Fact.row,Fact.lit,Fact.lit0,Fact.of,and_true,Fact.u64B] at hF; simp only [z01,Act.put,zQ]; simp only [hF]
  go_wp2_with fail
  refine (HRQ.out _).mono ?_; rintro e wx ⟨rfl,hb9⟩
  go_wp2
  exact ⟨rfl,⟨rfl,z09 hC hb9⟩,.inr hb9,.inr (.inl (by simp))⟩
 ·
  intro vals x9 hC hF; have hC:=hC.resolve_left (by simp); have hsz:=hC.size; simp only [z0c,zR,Fact.eq,Fact.row,Fact.lit,Fact.lit0,Fact.of,and_true,Fact.u64B] at hF; obtain ⟨⟨e1,hb1⟩,e2,hb2⟩:=hF; simp only [z01,Act.put,zQ]; simp only [e1,e2]; have hx:=HX.out
  go_wp2
  exact ⟨rfl,⟨rfl,hb2⟩,.inr (Below.refl _ _),.inr (.inl (by simp))⟩
 ·
  intro vals x9 hC hF; have hC:=hC.resolve_left (by simp); have hsz:=hC.size; simp only [z0c,zR,Fact.eq,Fact.row,Fact.lit,Fact.lit0,Fact.of,and_true,Fact.u64B] at hF; obtain ⟨e1,hb1⟩:=hF; simp only [z01,Act.put,zQ]; simp only [e1]
  go_wp2
  exact ⟨rfl,⟨rfl,hb1⟩,.inr (Below.refl _ _),.inr (.inl (by simp))⟩
 ·
  intro vals x9 hF; simp only [facts,zR,Fact.eq,Fact.row,Fact.lit,Fact.lit0,Fact.of,and_true,Fact.u64B] at hF; obtain ⟨e1,hb1⟩:=hF; simp only [z01,Act.put,zQ]; simp only [e1]; have HW9:=zH (z09 HW.out hb1); clear e1 hb1
  go_wp2
  go_ret
  exact ⟨rfl,HW9.out⟩
set_option maxHeartbeats 1000000 in
theorem ones_any (m : Nat) (n : Int) (w : World) (hm : 1 <= m) (hm4 : m <= 4) :
  Calls Tryz.prog 60 #[.agg #[.int .i64 (m : Int),.int .i64 n]] w fun e w' => e = .returned (.int .u64 ((2 ^ m - 1 : Nat) : Int)) /\ Below w.heap.size w w':=by
 have hal : Below w.heap.size w (w.alloc (.cells #[.int .i64 (m : Int),.int .i64 n] 24)):=(Below.refl _ _).alloc (Nat.le_refl _) _; have HAL:=zH hal; clear hal
 rcases four_of hm hm4 with rfl | rfl | rfl | rfl
 all_goals
  simp only [Int.cast_ofNat_Int] at HAL ⊢
  go_enter Tryz.func60,Tryz.ntmps60
  go_wp2
  go_ret
  exact ⟨rfl,HAL.out⟩
set_option maxRecDepth 100000 in
set_option maxHeartbeats 2000000 in
theorem raw_9 (m p q : Nat) (w : World) (hm : 1 <= m) (hm4 : m <= 4) (hp : p < 16) (hq : q < 16) (hp2 : p < 2 ^ m) :
  Calls Tryz.prog 59 #[(.agg #[.int .i64 (m : Int),.int .i64 (p : Int)]),(.agg #[.int .i64 (m : Int),.int .i64 (q : Int)])] w fun e w' => e = .returned (.int .u64 ((rawN 9 m p q : Nat) : Int)) /\ Below w.heap.size w w':=by
 obtain ⟨hW,hB0,hB1,hWS⟩:=z0p w (.cells #[.int .i64 (m : Int),.int .i64 (p : Int)] 24) (.cells #[.int .i64 (m : Int),.int .i64 (q : Int)] 24); have HW:=zH hW; have HB0:=zH hB0; have HB1:=zH hB1; have HRP:=zH (fun z => z1c m p z (by omega) (by omega)); have HRQ:=zH (fun z => z1c m q z (by omega) (by omega)); have HONE:=zH (fun z => ones_any m p z hm hm4)
 by_cases hq0 : q = 0
 ·
  have hqz : ((q : Int) == 0) = true:=by simpa using hq0
  have HR0 : Hid (rawN 9 m p q = 2 ^ m - 1):=zH (if_pos hq0); have y0:=(z00 HB0.out 0).1; have y1:=(z00 HB0.out 1).1; have z0:=(z00 HB1.out 0).1; have z1:=(z00 HB1.out 1).1; clear hW hB0 hB1 hWS hq0
  go_enter Tryz.func59,Tryz.ntmps59
  rw [HR0.out]
  go_wp2_with fail
  clear y0 y1 z0 z1; refine (HONE.out _).mono ?_; rintro e w9 ⟨rfl,hb9⟩; have HW9:=zH (z09 HW.out hb9); clear hb9
  go_wp2
  go_ret
  exact ⟨rfl,HW9.out⟩
 have hqz : ((q : Int) == 0) = false:=by simpa using hq0
 obtain ⟨R,hR⟩ : ∃ R : Nat,R = rawN 9 m p q:=⟨_,rfl⟩; have HR:=zH hR; have HX : Hid ((p : Int) / q = (R : Int)):=zH (by rw [hR]; show _ = ((if q = 0 then _ else _ : Nat) : Int); rw [if_neg hq0]; simp); have HWR : Hid (IntKind.u64.wrap (R : Int) = (R : Int)):=zH (by have h9 : R <= p:=(by rw [hR]; show (if q = 0 then _ else _ : Nat) <= p; rw [if_neg hq0]; exact Nat.div_le_self _ _); rw [IntKind.wrap_u64]; omega); rw [<- hR]; have z0:=(z00 HB1.out 0).1; have z1:=(z00 HB1.out 1).1; clear hR hW hB0 hB1 hWS
 go_enter Tryz.func59,Tryz.ntmps59
 go_wp2
 clear z0 z1; generalize hw1 : (w.alloc (.cells #[.int .i64 (m : Int),.int .i64 (p : Int)] 24)).alloc (.cells #[.int .i64 (m : Int),.int .i64 (q : Int)] 24) = w1 at *; clear hw1; have d0:=z0f.cell (z00 HB0.out 0).1; have d1:=z0f.cell (z00 HB0.out 1).1; have d2:=z0f.cell (z00 HB1.out 0).1; have d3:=z0f.cell (z00 HB1.out 1).1; refine z0d [[],[(0,10)],[],[(2,12)],[(1,11),(3,13)],[(4,14)]]
  [.eq (.agg #[.int .i64 (m : Int),.int .i64 (p : Int)]),Fact.u64B w1 (p : Int),.eq (.agg #[.int .i64 (m : Int),.int .i64 (q : Int)]),Fact.u64B w1 (q : Int),Fact.u64B w1 (R : Int),Fact.u64B w1 (R : Int)]
  [] [] [] [5] [(0,10),(1,11),(2,12),(3,13),(4,14),(5,4)] (by kernel_rfl) (by kernel_rfl) (by kernel_rfl) (by kernel_rfl)
  ⟨?_,?_,?_,?_,?_,?_,trivial⟩ ?_
 ·
  intro vals x9 hC hF; have hC:=hC.resolve_left (by simp); have hsz:=hC.size; have e1 : x9.cell? _ = _:=d0 ⟨x9,hC⟩; have e2 : x9.cell? _ = _:=d1 ⟨x9,hC⟩; simp only [z01,Act.put,zQ]
  go_wp2
  exact ⟨rfl,rfl,.inr (Below.refl _ _),.inr (.inl (by simp))⟩
 ·
  intro vals x9 hC hF; have hC:=hC.resolve_left (by simp); have hsz:=hC.size; simp only [z0c,zR,Fact.eq,Fact.row,Fact.lit,Fact.lit0,Fact.of,and_true,Fact.u64B] at hF; simp only [z01,Act.put,zQ]; simp only [hF]
  go_wp2_with fail
  refine (HRP.out _).mono ?_; rintro e wx ⟨rfl,hb9⟩
  go_wp2
  exact ⟨rfl,⟨rfl,z09 hC hb9⟩,.inr hb9,.inr (.inl (by simp))⟩
 ·
  intro vals x9 hC hF; have hC:=hC.resolve_left (by simp); have hsz:=hC.size; have e1 : x9.cell? _ = _:=d2 ⟨x9,hC⟩; have e2 : x9.cell? _ = _:=d3 ⟨x9,hC⟩; simp only [z01,Act.put,zQ]
  go_wp2
  exact ⟨rfl,rfl,.inr (Below.refl _ _),.inr (.inl (by simp))⟩
 ·
  intro vals x9 hC hF; have hC:=hC.resolve_left (by simp); have hsz:=hC.size; simp only [z0c,zR,Fact.eq,Fact.row,Fact.lit,Fact.lit0,Fact.of,and_true,Fact.u64B] at hF; simp only [z01,Act.put,zQ]; simp only [hF]
  go_wp2_with fail
  refine (HRQ.out _).mono ?_; rintro e wx ⟨rfl,hb9⟩
  go_wp2
  exact ⟨rfl,⟨rfl,z09 hC hb9⟩,.inr hb9,.inr (.inl (by simp))⟩
 ·
  intro vals x9 hC hF; have hC:=hC.resolve_left (by simp); have hsz:=hC.size; simp only [z0c,zR,Fact.eq,Fact.row,Fact.lit,Fact.lit0,Fact.of,and_true,Fact.u64B] at hF; obtain ⟨⟨e1,hb1⟩,e2,hb2⟩:=hF; simp only [z01,Act.put,zQ]; simp only [e1,e2]; have hx:=HX.out; have hx2:=HWR.out
  go_wp2
  exact ⟨rfl,⟨rfl,hb2⟩,.inr (Below.refl _ _),.inr (.inl (by simp))⟩
 ·
  intro vals x9 hC hF; have hC:=hC.resolve_left (by simp); have hsz:=hC.size; simp only [z0c,zR,Fact.eq,Fact.row,Fact.lit,Fact.lit0,Fact.of,and_true,Fact.u64B] at hF; obtain ⟨e1,hb1⟩:=hF; simp only [z01,Act.put,zQ]; simp only [e1]
  go_wp2
  exact ⟨rfl,⟨rfl,hb1⟩,.inr (Below.refl _ _),.inr (.inl (by simp))⟩
 ·
  intro vals x9 hF; simp only [facts,zR,Fact.eq,Fact.row,Fact.lit,Fact.lit0,Fact.of,and_true,Fact.u64B] at hF; obtain ⟨e1,hb1⟩:=hF; simp only [z01,Act.put,zQ]; simp only [e1]; have HW9:=zH (z09 HW.out hb1); clear e1 hb1
  go_wp2
  go_ret
  exact ⟨rfl,HW9.out⟩
set_option maxRecDepth 100000 in
set_option maxHeartbeats 2000000 in
theorem raw_10 (m p q : Nat) (w : World) (hm : 1 <= m) (hm4 : m <= 4) (hp : p < 16) (hq : q < 16) (hp2 : p < 2 ^ m) :
  Calls Tryz.prog 61 #[(.agg #[.int .i64 (m : Int),.int .i64 (p : Int)]),(.agg #[.int .i64 (m : Int),.int .i64 (q : Int)])] w fun e w' => e = .returned (.int .u64 ((rawN 10 m p q : Nat) : Int)) /\ Below w.heap.size w w':=by
 obtain ⟨hW,hB0,hB1,hWS⟩:=z0p w (.cells #[.int .i64 (m : Int),.int .i64 (p : Int)] 24) (.cells #[.int .i64 (m : Int),.int .i64 (q : Int)] 24); have HW:=zH hW; have HB0:=zH hB0; have HB1:=zH hB1; have HRP:=zH (fun z => z1c m p z (by omega) (by omega)); have HRQ:=zH (fun z => z1c m q z (by omega) (by omega)); have HONE:=zH (fun z => ones_any m p z hm hm4)
 by_cases hq0 : q = 0
 ·
  have hqz : ((q : Int) == 0) = true:=by simpa using hq0
  have HR0 : Hid (rawN 10 m p q = p):=zH (if_pos hq0); have y0:=(z00 HB0.out 0).1; have y1:=(z00 HB0.out 1).1; have z0:=(z00 HB1.out 0).1; have z1:=(z00 HB1.out 1).1; clear hW hB0 hB1 hWS hq0
  go_enter Tryz.func61,Tryz.ntmps61
  rw [HR0.out]
  go_wp2_with fail
  clear y0 y1 z0 z1; refine (HRP.out _).mono ?_; rintro e w9 ⟨rfl,hb9⟩; have HW9:=zH (z09 HW.out hb9); clear hb9
  go_wp2
  go_ret
  exact ⟨rfl,HW9.out⟩
 have hqz : ((q : Int) == 0) = false:=by simpa using hq0
 obtain ⟨R,hR⟩ : ∃ R : Nat,R = rawN 10 m p q:=⟨_,rfl⟩; have HR:=zH hR; have HX : Hid ((p : Int) % q = (R : Int)):=zH (by rw [hR]; show _ = ((if q = 0 then _ else _ : Nat) : Int); rw [if_neg hq0]; simp); have HWR : Hid (IntKind.u64.wrap (R : Int) = (R : Int)):=zH (by have h9 : R <= p:=(by rw [hR]; show (if q = 0 then _ else _ : Nat) <= p; rw [if_neg hq0]; exact Nat.mod_le _ _); rw [IntKind.wrap_u64]; omega); rw [<- hR]; have z0:=(z00 HB1.out 0).1; have z1:=(z00 HB1.out 1).1; clear hR hW hB0 hB1 hWS
 go_enter Tryz.func61,Tryz.ntmps61
 go_wp2
 clear z0 z1; generalize hw1 : (w.alloc (.cells #[.int .i64 (m : Int),.int .i64 (p : Int)] 24)).alloc (.cells #[.int .i64 (m : Int),.int .i64 (q : Int)] 24) = w1 at *; clear hw1; have d0:=z0f.cell (z00 HB0.out 0).1; have d1:=z0f.cell (z00 HB0.out 1).1; have d2:=z0f.cell (z00 HB1.out 0).1; have d3:=z0f.cell (z00 HB1.out 1).1; refine z0d [[],[(0,10)],[],[(2,12)],[(1,11),(3,13)],[(4,14)]]
  [.eq (.agg #[.int .i64 (m : Int),.int .i64 (p : Int)]),Fact.u64B w1 (p : Int),.eq (.agg #[.int .i64 (m : Int),.int .i64 (q : Int)]),Fact.u64B w1 (q : Int),Fact.u64B w1 (R : Int),Fact.u64B w1 (R : Int)]
  [] [] [] [5] [(0,10),(1,11),(2,12),(3,13),(4,14),(5,4)] (by kernel_rfl) (by kernel_rfl) (by kernel_rfl) (by kernel_rfl)
  ⟨?_,?_,?_,?_,?_,?_,trivial⟩ ?_
 ·
  intro vals x9 hC hF; have hC:=hC.resolve_left (by simp); have hsz:=hC.size; have e1 : x9.cell? _ = _:=d0 ⟨x9,hC⟩; have e2 : x9.cell? _ = _:=d1 ⟨x9,hC⟩; simp only [z01,Act.put,zQ]
  go_wp2
  exact ⟨rfl,rfl,.inr (Below.refl _ _),.inr (.inl (by simp))⟩
 ·
  intro vals x9 hC hF; have hC:=hC.resolve_left (by simp); have hsz:=hC.size; simp only [z0c,zR,Fact.eq,Fact.row,Fact.lit,Fact.lit0,Fact.of,and_true,Fact.u64B] at hF; simp only [z01,Act.put,zQ]; simp only [hF]
  go_wp2_with fail
  refine (HRP.out _).mono ?_; rintro e wx ⟨rfl,hb9⟩
  go_wp2
  exact ⟨rfl,⟨rfl,z09 hC hb9⟩,.inr hb9,.inr (.inl (by simp))⟩
 ·
  intro vals x9 hC hF; have hC:=hC.resolve_left (by simp); have hsz:=hC.size; have e1 : x9.cell? _ = _:=d2 ⟨x9,hC⟩; have e2 : x9.cell? _ = _:=d3 ⟨x9,hC⟩; simp only [z01,Act.put,zQ]
  go_wp2
  exact ⟨rfl,rfl,.inr (Below.refl _ _),.inr (.inl (by simp))⟩
 ·
  intro vals x9 hC hF; have hC:=hC.resolve_left (by simp); have hsz:=hC.size; simp only [z0c,zR,Fact.eq,Fact.row,Fact.lit,Fact.lit0,Fact.of,and_true,Fact.u64B] at hF; simp only [z01,Act.put,zQ]; simp only [hF]
  go_wp2_with fail
  refine (HRQ.out _).mono ?_; rintro e wx ⟨rfl,hb9⟩
  go_wp2
  exact ⟨rfl,⟨rfl,z09 hC hb9⟩,.inr hb9,.inr (.inl (by simp))⟩
 ·
  intro vals x9 hC hF; have hC:=hC.resolve_left (by simp); have hsz:=hC.size; simp only [z0c,zR,Fact.eq,Fact.row,Fact.lit,Fact.lit0,Fact.of,and_true,Fact.u64B] at hF; obtain ⟨⟨e1,hb1⟩,e2,hb2⟩:=hF; simp only [z01,Act.put,zQ]; simp only [e1,e2]
  go_wp2
  exact ⟨rfl,⟨congrArg (Value.int .u64) HX.out,hb2⟩,.inr (Below.refl _ _),.inr (.inl (by simp))⟩
 ·
  intro vals x9 hC hF; have hC:=hC.resolve_left (by simp); have hsz:=hC.size; simp only [z0c,zR,Fact.eq,Fact.row,Fact.lit,Fact.lit0,Fact.of,and_true,Fact.u64B] at hF; obtain ⟨e1,hb1⟩:=hF; simp only [z01,Act.put,zQ]; simp only [e1]
  go_wp2
  exact ⟨rfl,⟨rfl,hb1⟩,.inr (Below.refl _ _),.inr (.inl (by simp))⟩
 ·
  intro vals x9 hF; simp only [facts,zR,Fact.eq,Fact.row,Fact.lit,Fact.lit0,Fact.of,and_true,Fact.u64B] at hF; obtain ⟨e1,hb1⟩:=hF; simp only [z01,Act.put,zQ]; simp only [e1]; have HW9:=zH (z09 HW.out hb1); clear e1 hb1
  go_wp2
  go_ret
  exact ⟨rfl,HW9.out⟩
def strN (m p : Nat) : Nat:=if p / 2 ^ (m - 1) % 2 = 1 then p + (4294967296 - 2 ^ m) else p
def strOk : Bool:=(List.range 4).all fun m => (List.range (2 ^ (m + 1))).all fun p => (p ||| (4294967296 - 2 ^ (m + 1))) == p + (4294967296 - 2 ^ (m + 1))
theorem str_or {m p : Nat} (hm : 1 <= m) (hm4 : m <= 4) (hp : p < 2 ^ m) : p ||| (4294967296 - 2 ^ m) = p + (4294967296 - 2 ^ m):=by
 have h2:=List.all_eq_true.1 (show strOk = true by kernel_rfl) (m - 1) (List.mem_range.2 (by omega)); rw [show m - 1 + 1 = m by omega] at h2; exact eq_of_beq (List.all_eq_true.1 h2 p (List.mem_range.2 hp))
set_option maxRecDepth 100000 in
set_option maxHeartbeats 2000000 in
theorem stretched_any (m p : Nat) (w : World) (hm : 1 <= m) (hm4 : m <= 4) (hp : p < 16) (hp2 : p < 2 ^ m) :
  Calls Tryz.prog 65 #[(.agg #[.int .i64 (m : Int),.int .i64 (p : Int)])] w fun e w' => e = .returned (.int .u64 ((strN m p : Nat) : Int)) /\ Below w.heap.size w w':=by
 have hal : Below w.heap.size w (w.alloc (.cells #[.int .i64 (m : Int),.int .i64 (p : Int)] 24)):=(Below.refl _ _).alloc (Nat.le_refl _) _; have HAL:=zH hal; have HB:=zH (heap_alloc_new w (.cells #[.int .i64 (m : Int),.int .i64 (p : Int)] 24)); have HRP:=zH (fun z => z1c m p z (by omega) (by omega)); have HONE:=zH (fun z => ones_any m p z hm hm4); have hbit:=fun z => bit_any p (m - 1) z (by omega) (by omega) (by omega)
 rw [show ((m - 1 : Nat) : Int) = (m : Int) - 1 by omega] at hbit; have HBIT:=zH hbit; have hbv : bitV p (m - 1) = decide (p / 2 ^ (m - 1) % 2 = 1):=by unfold bitV; rw [Int.toNat_natCast,Nat.testBit_eq_decide_div_mod_eq]
 obtain ⟨y,hy⟩ : ∃ y : Nat,y = 18446744073709551615 - (2 ^ m - 1):=⟨_,rfl⟩; obtain ⟨o,ho⟩ : ∃ o : Nat,o = 2 ^ m - 1:=⟨_,rfl⟩; obtain ⟨zz,hzz⟩ : ∃ zz : Nat,zz = 4294967296 - 2 ^ m:=⟨_,rfl⟩; have HX1 : Hid (bits .xor .u64 IntKind.u64.max (o : Int) = (y : Int)):=zH (by rw [ho,hy]; rcases four_of hm hm4 with rfl | rfl | rfl | rfl <;> rfl); have HX2 : Hid (bits .and .u64 (y : Int) 4294967295 = (zz : Int)):=zH (by rw [hy,hzz]; rcases four_of hm hm4 with rfl | rfl | rfl | rfl <;> rfl); have HX3 : Hid (bits .or .u64 (p : Int) (zz : Int) = ((p + zz : Nat) : Int)):=zH (by rw [hzz,<- str_or hm hm4 hp2]; exact bits_or_u64_nat p _ (by omega) (by omega)); have HSY : Hid (bitV p (m - 1) = true -> strN m p = p + zz):=zH fun h => by rw [hbv] at h; rw [hzz]; exact if_pos (of_decide_eq_true h)
 have HSN : Hid (bitV p (m - 1) = false -> strN m p = p):=zH fun h => by rw [hbv] at h; exact if_neg (of_decide_eq_false h)
 rw [<- ho] at HONE; clear hal hy ho hzz hbit hbv
 go_enter Tryz.func65,Tryz.ntmps65
 go_wp2
 generalize hw1 : w.alloc (.cells #[.int .i64 (m : Int),.int .i64 (p : Int)] 24) = w1 at *; clear hw1; have d0:=z0f.cell (z00 HB.out 0).1; have d1:=z0f.cell (z00 HB.out 1).1; refine z0d [[],[(0,3)],[],[(2,5)],[(3,6)],[(1,4),(4,7)]]
  [.eq (.agg #[.int .i64 (m : Int),.int .i64 (p : Int)]),Fact.u64B w1 (p : Int),.eq (.pointer (some ⟨w.heap.size,0,none⟩)),.eq (.int .i64 (m : Int)),.eq (.int .i64 ((m : Int) - 1)),Fact.boolC w1 (bitV p (m - 1))]
  [] [] [] [5] [(0,3),(1,4),(2,5),(3,6),(4,7),(5,8)] (by kernel_rfl) (by kernel_rfl) (by kernel_rfl) (by kernel_rfl)
  ⟨?_,?_,?_,?_,?_,?_,trivial⟩ ?_
 ·
  intro vals x9 hC hF; have hC:=hC.resolve_left (by simp); have hsz:=hC.size; have e1 : x9.cell? _ = _:=d0 ⟨x9,hC⟩; have e2 : x9.cell? _ = _:=d1 ⟨x9,hC⟩; simp only [z01,Act.put,zQ]
  go_wp2
  exact ⟨rfl,rfl,.inr (Below.refl _ _),.inr (.inl (by simp))⟩
 ·
  intro vals x9 hC hF; have hC:=hC.resolve_left (by simp); have hsz:=hC.size; simp only [z0c,zR,Fact.eq,Fact.row,Fact.lit,Fact.lit0,Fact.of,and_true,Fact.u64B,Fact.boolC] at hF; simp only [z01,Act.put,zQ]; simp only [hF]
  go_wp2_with fail
  refine (HRP.out _).mono ?_; rintro e wx ⟨rfl,hb9⟩
  go_wp2
  exact ⟨rfl,⟨rfl,z09 hC hb9⟩,.inr hb9,.inr (.inl (by simp))⟩
 ·
  intro vals x9 hC hF; simp only [z01,Act.put,zQ]
  go_wp2
  exact ⟨rfl,rfl,.inr (Below.refl _ _),.inr (.inl (by simp))⟩
 ·
  intro vals x9 hC hF; have hC:=hC.resolve_left (by simp); have hsz:=hC.size; have e1 : x9.cell? _ = _:=d0 ⟨x9,hC⟩; simp only [z0c,zR,Fact.eq,Fact.row,Fact.lit,Fact.lit0,Fact.of,and_true,Fact.u64B,Fact.boolC] at hF; have e9:=hF; simp only [z01,Act.put,zQ]; simp only [e9]
  go_wp2
  exact ⟨rfl,rfl,.inr (Below.refl _ _),.inr (.inl (by simp))⟩
 ·
  intro vals x9 hC hF; simp only [z0c,zR,Fact.eq,Fact.row,Fact.lit,Fact.lit0,Fact.of,and_true,Fact.u64B,Fact.boolC] at hF; have e9:=hF; simp only [z01,Act.put,zQ]; simp only [e9]
  go_wp2
  exact ⟨rfl,rfl,.inr (Below.refl _ _),.inr (.inl (by simp))⟩
 ·
  intro vals x9 hC hF; have hC:=hC.resolve_left (by simp); have hsz:=hC.size; simp only [z0c,zR,Fact.eq,Fact.row,Fact.lit,Fact.lit0,Fact.of,and_true,Fact.u64B,Fact.boolC] at hF; obtain ⟨⟨e7,hb7⟩,e10⟩:=hF; simp only [z01,Act.put,zQ]; simp only [e7,e10]
  go_wp2_with fail
  refine (HBIT.out _).mono ?_; rintro e wx ⟨rfl,rfl⟩
  go_wp2
  exact ⟨rfl,⟨rfl,hb7⟩,.inr (Below.refl _ _),.inr (.inl (by simp))⟩
 ·
  intro vals x9 hF; simp only [facts,zR,Fact.eq,Fact.row,Fact.lit,Fact.lit0,Fact.of,and_true,Fact.u64B,Fact.boolC] at hF; obtain ⟨e11,hb9⟩:=hF; simp only [z01,Act.put,zQ]; simp only [e11]; have HB2:=zH ((hb9.block _ (lt_of_block HB.out)).trans HB.out); have HW2:=zH (z09 HAL.out hb9); obtain ⟨w2,hw2⟩ : ∃ w2,w2 = x9:=⟨_,rfl⟩; subst hw2; have v0:=(z00 HB2.out 0).1; have v1:=(z00 HB2.out 1).1; clear hb9 e11 d0 d1
  cases hbit : bitV p (m - 1)
  ·
   have HBT:=zH hbit; clear hbit
   go_wp2_with fail
   refine (HRP.out _).mono ?_; rintro e w9 ⟨rfl,hb9⟩; have HW9:=zH (z09 HW2.out hb9); clear hb9
   go_wp2
   go_ret
   exact ⟨by rw [HSN.out HBT.out]; rfl,HW9.out⟩
  ·
   have HBT:=zH hbit; have d0:=z0f.cell v0; have d1:=z0f.cell v1; clear hbit
   go_wp2
   clear v0 v1; refine z0d [[],[(0,9)],[],[(2,11)],[(3,12)],[(4,13)],[(1,10),(5,14)],[(6,15)]]
    [.eq (.agg #[.int .i64 (m : Int),.int .i64 (p : Int)]),Fact.u64B w2 (p : Int),.eq (.agg #[.int .i64 (m : Int),.int .i64 (p : Int)]),Fact.u64B w2 (o : Int),Fact.u64B w2 (y : Int),Fact.u64B w2 (zz : Int),Fact.u64B w2 ((p + zz : Nat) : Int),Fact.u64B w2 ((p + zz : Nat) : Int)]
    [] [] [] [7] [(0,9),(1,10),(2,11),(3,12),(4,13),(5,14),(6,15),(7,2)] (by kernel_rfl) (by kernel_rfl) (by kernel_rfl) (by kernel_rfl)
    ⟨?_,?_,?_,?_,?_,?_,?_,?_,trivial⟩ ?_
   ·
    intro vals x9 hC hF; have hC:=hC.resolve_left (by simp); have hsz:=hC.size; have e1 : x9.cell? _ = _:=d0 ⟨x9,hC⟩; have e2 : x9.cell? _ = _:=d1 ⟨x9,hC⟩; simp only [z01,Act.put,zQ]
    go_wp2
    exact ⟨rfl,rfl,.inr (Below.refl _ _),.inr (.inl (by simp))⟩
   ·
    intro vals x9 hC hF; have hC:=hC.resolve_left (by simp); have hsz:=hC.size; simp only [z0c,zR,Fact.eq,Fact.row,Fact.lit,Fact.lit0,Fact.of,and_true,Fact.u64B] at hF; simp only [z01,Act.put,zQ]; simp only [hF]
    go_wp2_with fail
    refine (HRP.out _).mono ?_; rintro e wx ⟨rfl,hb9⟩
    go_wp2
    exact ⟨rfl,⟨rfl,z09 hC hb9⟩,.inr hb9,.inr (.inl (by simp))⟩
   ·
    intro vals x9 hC hF; have hC:=hC.resolve_left (by simp); have hsz:=hC.size; have e1 : x9.cell? _ = _:=d0 ⟨x9,hC⟩; have e2 : x9.cell? _ = _:=d1 ⟨x9,hC⟩; simp only [z01,Act.put,zQ]
    go_wp2
    exact ⟨rfl,rfl,.inr (Below.refl _ _),.inr (.inl (by simp))⟩
   ·
    intro vals x9 hC hF; have hC:=hC.resolve_left (by simp); have hsz:=hC.size; simp only [z0c,zR,Fact.eq,Fact.row,Fact.lit,Fact.lit0,Fact.of,and_true,Fact.u64B] at hF; simp only [z01,Act.put,zQ]; simp only [hF]
    go_wp2_with fail
    refine (HONE.out _).mono ?_; rintro e wx ⟨rfl,hb9⟩
    go_wp2
    exact ⟨rfl,⟨rfl,z09 hC hb9⟩,.inr hb9,.inr (.inl (by simp))⟩
   ·
    intro vals x9 hC hF; have hC:=hC.resolve_left (by simp); have hsz:=hC.size; simp only [z0c,zR,Fact.eq,Fact.row,Fact.lit,Fact.lit0,Fact.of,and_true,Fact.u64B] at hF; obtain ⟨e1,hb1⟩:=hF; simp only [z01,Act.put,zQ]; simp only [e1]; have hx:=HX1.out
    go_wp2
    exact ⟨rfl,⟨rfl,hb1⟩,.inr (Below.refl _ _),.inr (.inl (by simp))⟩
   ·
    intro vals x9 hC hF; have hC:=hC.resolve_left (by simp); have hsz:=hC.size; simp only [z0c,zR,Fact.eq,Fact.row,Fact.lit,Fact.lit0,Fact.of,and_true,Fact.u64B] at hF; obtain ⟨e1,hb1⟩:=hF; simp only [z01,Act.put,zQ]; simp only [e1]; have hx:=HX2.out
    go_wp2
    exact ⟨rfl,⟨rfl,hb1⟩,.inr (Below.refl _ _),.inr (.inl (by simp))⟩
   ·
    intro vals x9 hC hF; have hC:=hC.resolve_left (by simp); have hsz:=hC.size; simp only [z0c,zR,Fact.eq,Fact.row,Fact.lit,Fact.lit0,Fact.of,and_true,Fact.u64B] at hF; obtain ⟨⟨e1,hb1⟩,e2,hb2⟩:=hF; simp only [z01,Act.put,zQ]; simp only [e1,e2]; have hx:=HX3.out
    go_wp2
    exact ⟨rfl,⟨rfl,hb2⟩,.inr (Below.refl _ _),.inr (.inl (by simp))⟩
   ·
    intro vals x9 hC hF; have hC:=hC.resolve_left (by simp); have hsz:=hC.size; simp only [z0c,zR,Fact.eq,Fact.row,Fact.lit,Fact.lit0,Fact.of,and_true,Fact.u64B] at hF; obtain ⟨e1,hb1⟩:=hF; simp only [z01,Act.put,zQ]; simp only [e1]
    go_wp2
    exact ⟨rfl,⟨rfl,hb1⟩,.inr (Below.refl _ _),.inr (.inl (by simp))⟩
   ·
    intro vals x9 hF; simp only [facts,zR,Fact.eq,Fact.row,Fact.lit,Fact.lit0,Fact.of,and_true,Fact.u64B] at hF; obtain ⟨e1,hb1⟩:=hF; simp only [z01,Act.put,zQ]; simp only [e1]; have HW9:=zH (z09 HW2.out hb1); clear e1 hb1
    go_wp2
    go_ret
    exact ⟨by rw [HSY.out HBT.out]; rfl,HW9.out⟩
set_option maxRecDepth 100000 in
set_option maxHeartbeats 2000000 in
theorem raw_13 (m p q : Nat) (w : World) (hm : 1 <= m) (hm4 : m <= 4) (hp : p < 16) (hq : q < 16) (hp2 : p < 2 ^ m) :
  Calls Tryz.prog 64 #[(.agg #[.int .i64 (m : Int),.int .i64 (p : Int)]),(.agg #[.int .i64 (m : Int),.int .i64 (q : Int)])] w fun e w' => e = .returned (.int .u64 ((rawN 13 m p q : Nat) : Int)) /\ Below w.heap.size w w':=by
 obtain ⟨hW,hB0,hB1,hWS⟩:=z0p w (.cells #[.int .i64 (m : Int),.int .i64 (p : Int)] 24) (.cells #[.int .i64 (m : Int),.int .i64 (q : Int)] 24); have HW:=zH hW; have HB0:=zH hB0; have HB1:=zH hB1; have HRP:=zH (fun z => z1c m p z (by omega) (by omega)); have HRQ:=zH (fun z => z1c m q z (by omega) (by omega)); have HST:=zH (fun z => stretched_any m p z hm hm4 hp hp2); obtain ⟨R,hR⟩ : ∃ R : Nat,R = rawN 13 m p q:=⟨_,rfl⟩; have HR:=zH hR; obtain ⟨s9,hs9⟩ : ∃ s9,s9 = strN m p:=⟨_,rfl⟩; rw [<- hs9] at HST; have HX : Hid ((s9 : Int) / 2 ^ q = (R : Int)):=zH (by rw [HR.out,hs9]; show _ = ((strN m p / 2 ^ q : Nat) : Int); simp); rw [<- hR]; clear hR hs9; clear hW hB0 hB1 hWS
 go_enter Tryz.func64,Tryz.ntmps64
 go_wp2
 generalize hw1 : (w.alloc (.cells #[.int .i64 (m : Int),.int .i64 (p : Int)] 24)).alloc (.cells #[.int .i64 (m : Int),.int .i64 (q : Int)] 24) = w1 at *; clear hw1; have d0:=z0f.cell (z00 HB0.out 0).1; have d1:=z0f.cell (z00 HB0.out 1).1; have d2:=z0f.cell (z00 HB1.out 0).1; have d3:=z0f.cell (z00 HB1.out 1).1; refine z0d [[],[(0,5)],[],[(2,7)],[(1,6),(3,8)],[(4,9)]]
  [.eq (.agg #[.int .i64 (m : Int),.int .i64 (p : Int)]),Fact.u64B w1 (s9 : Int),.eq (.agg #[.int .i64 (m : Int),.int .i64 (q : Int)]),Fact.u64B w1 (q : Int),Fact.u64B w1 (R : Int),Fact.u64B w1 (R : Int)]
  [] [] [] [5] [(0,5),(1,6),(2,7),(3,8),(4,9),(5,4)] (by kernel_rfl) (by kernel_rfl) (by kernel_rfl) (by kernel_rfl)
  ⟨?_,?_,?_,?_,?_,?_,trivial⟩ ?_
 ·
  intro vals x9 hC hF; have hC:=hC.resolve_left (by simp); have hsz:=hC.size; have e1 : x9.cell? _ = _:=d0 ⟨x9,hC⟩; have e2 : x9.cell? _ = _:=d1 ⟨x9,hC⟩; simp only [z01,Act.put,zQ]
  go_wp2
  exact ⟨rfl,rfl,.inr (Below.refl _ _),.inr (.inl (by simp))⟩
 ·
  intro vals x9 hC hF; have hC:=hC.resolve_left (by simp); have hsz:=hC.size; simp only [z0c,zR,Fact.eq,Fact.row,Fact.lit,Fact.lit0,Fact.of,and_true,Fact.u64B] at hF; simp only [z01,Act.put,zQ]; simp only [hF]
  go_wp2_with fail
  refine (HST.out _).mono ?_; rintro e wx ⟨rfl,hb9⟩
  go_wp2
  exact ⟨rfl,⟨rfl,z09 hC hb9⟩,.inr hb9,.inr (.inl (by simp))⟩
 ·
  intro vals x9 hC hF; have hC:=hC.resolve_left (by simp); have hsz:=hC.size; have e1 : x9.cell? _ = _:=d2 ⟨x9,hC⟩; have e2 : x9.cell? _ = _:=d3 ⟨x9,hC⟩; simp only [z01,Act.put,zQ]
  go_wp2
  exact ⟨rfl,rfl,.inr (Below.refl _ _),.inr (.inl (by simp))⟩
 ·
  intro vals x9 hC hF; have hC:=hC.resolve_left (by simp); have hsz:=hC.size; simp only [z0c,zR,Fact.eq,Fact.row,Fact.lit,Fact.lit0,Fact.of,and_true,Fact.u64B] at hF; simp only [z01,Act.put,zQ]; simp only [hF]
  go_wp2_with fail
  refine (HRQ.out _).mono ?_; rintro e wx ⟨rfl,hb9⟩
  go_wp2
  exact ⟨rfl,⟨rfl,z09 hC hb9⟩,.inr hb9,.inr (.inl (by simp))⟩
 ·
  intro vals x9 hC hF; have hC:=hC.resolve_left (by simp); have hsz:=hC.size; simp only [z0c,zR,Fact.eq,Fact.row,Fact.lit,Fact.lit0,Fact.of,and_true,Fact.u64B] at hF; obtain ⟨⟨e1,hb1⟩,e2,hb2⟩:=hF; simp only [z01,Act.put,zQ]; simp only [e1,e2]; have hx:=HX.out
  go_wp2
  exact ⟨rfl,⟨rfl,hb2⟩,.inr (Below.refl _ _),.inr (.inl (by simp))⟩
 ·
  intro vals x9 hC hF; have hC:=hC.resolve_left (by simp); have hsz:=hC.size; simp only [z0c,zR,Fact.eq,Fact.row,Fact.lit,Fact.lit0,Fact.of,and_true,Fact.u64B] at hF; obtain ⟨e1,hb1⟩:=hF; simp only [z01,Act.put,zQ]; simp only [e1]
  go_wp2
  exact ⟨rfl,⟨rfl,hb1⟩,.inr (Below.refl _ _),.inr (.inl (by simp))⟩
 ·
  intro vals x9 hF; simp only [facts,zR,Fact.eq,Fact.row,Fact.lit,Fact.lit0,Fact.of,and_true,Fact.u64B] at hF; obtain ⟨e1,hb1⟩:=hF; simp only [z01,Act.put,zQ]; simp only [e1]; have HW9:=zH (z09 HW.out hb1); clear e1 hb1
  go_wp2
  go_ret
  exact ⟨rfl,HW9.out⟩
theorem and_u64B (u k : Nat) (hu : u < 18446744073709551616) (hk : k < 64) : bits .and .u64 (u : Int) ((2 ^ k - 1 : Nat) : Int) = ((u % 2 ^ k : Nat) : Int):=by
 have h2 : 2 ^ k <= 2 ^ 63:=Nat.pow_le_pow_right (by omega) (by omega); have h:=bits_and_u64_nat u (2 ^ k - 1) hu (by omega); rw [Nat.and_two_pow_sub_one_eq_mod] at h; exact h
set_option maxHeartbeats 2000000 in
theorem cut_any (m u : Nat) (w : World) (hm : 1 <= m) (hm4 : m <= 4) (hu : u < 18446744073709551616) :
  Calls Tryz.prog 51 #[.int .u64 u,.int .i64 (m : Int)] w fun e w' => e = .returned (.int .u64 ((u % 2 ^ m : Nat) : Int)) /\ w = w':=by
 have hand:=and_u64B u m hu (by omega); obtain ⟨r,hr⟩ : ∃ r : Nat,r = u % 2 ^ m:=⟨_,rfl⟩; rw [<- hr] at hand ⊢; clear hr
 rcases four_of hm hm4 with rfl | rfl | rfl | rfl
 all_goals
  simp only [Int.cast_ofNat_Int] at hand ⊢; simp at hand
  go_enter Tryz.func51,Tryz.ntmps51
  go_wp2
  go_ret
  exact ⟨rfl,rfl⟩
set_option maxRecDepth 100000 in
set_option maxHeartbeats 2000000 in
theorem vec_any (m : Nat) (n : Int) (u r : Nat) (w : World) (hm : 1 <= m) (hm4 : m <= 4) (hu : u < 18446744073709551616) (hr : u % 2 ^ m = r) (hr16 : r < 16) :
  Calls Tryz.prog 27 #[.agg #[.int .i64 (m : Int),.int .i64 n],.int .u64 u] w fun e w' => e = .returned (.agg #[.int .i64 (m : Int),.int .i64 (r : Int)]) /\ Below w.heap.size w w':=by
 obtain ⟨hW,hB0,hB1,hWS⟩:=z0p w (.cells #[.int .i64 (m : Int),.int .i64 n] 24) (.cells #[.int .i64 0,.int .i64 0] 24); have HW:=zH hW; have HB0:=zH hB0; have HB1:=zH hB1; have HCUT:=zH (fun z => cut_any m u z hm hm4 hu); rw [hr] at HCUT; clear hW hB0 hB1 hWS hr
 go_enter Tryz.func27,Tryz.ntmps27
 go_wp2
 generalize hX0 : (w.alloc (.cells #[.int .i64 (m : Int),.int .i64 n] 24)).alloc (.cells #[.int .i64 0,.int .i64 0] 24) = X0 at *; clear hX0; refine z0a [[],[(0,5)],[],[],[(3,8)],[(2,7),(4,9)],[(5,10)],[(1,6),(6,11)],[(7,12)]]
  (fun _ _ => True)
  []
  (fun f9 x9 => Below w.heap.size w x9 /\ x9.heap[w.heap.size]? = some (.cells #[.int .i64 (m : Int),.int .i64 n] 24 (0,0)) /\ (f9 8 = false -> x9.heap[w.heap.size + 1]? = some (.cells #[.int .i64 0,.int .i64 0] 24 (0,0))) /\ (f9 8 = true -> x9.heap[w.heap.size + 1]? = some (.cells #[.int .i64 (m : Int),.int .i64 (r : Int)] 24 (0,0))))
  [zF 0 (.pointer (some ⟨w.heap.size,0,none⟩)),
  zF 1 (.int .i64 (m : Int)),
  zF 2 (.int .u64 (u : Int)),
  zF 3 (.pointer (some ⟨w.heap.size,0,none⟩)),
  zF 4 (.int .i64 (m : Int)),
  zF 5 (.int .u64 (r : Int)),
  zF 6 (.int .i64 (r : Int)),
  zF 7 (.agg #[.int .i64 (m : Int),.int .i64 (r : Int)]),
  fun _ _ => True]
  [(0,5),(1,6),(2,7),(3,8),(4,9),(5,10),(6,11),(7,12)] (by kernel_rfl) (by kernel_rfl) (by kernel_rfl) (by kernel_rfl)
  (fun _ => trivial) trivial
  ⟨⟨.inr zG,trivial⟩,
  ⟨.inr zG,trivial⟩,
  ⟨.inr zG,trivial⟩,
  ⟨.inr zG,trivial⟩,
  ⟨.inr zG,trivial⟩,
  ⟨.inr zG,trivial⟩,
  ⟨.inr zG,trivial⟩,
  ⟨.inr zG,trivial⟩,
  ⟨.inr zK,trivial⟩,trivial⟩ ⟨zL,
  zL,
  zL,
  zL,
  zL,
  zL,
  zL,
  zL,
  fun _ _ _ _ _ _ => trivial,trivial⟩ (⟨HW.out.trans (z02 (Below.refl _ _) 1 |>.mono HW.out.size),HB0.out,fun _ => HB1.out,fun h => by cases h⟩) ⟨?_,?_,?_,?_,?_,?_,?_,?_,?_,trivial⟩ ?_
 ·
  rintro vals xw f hf1 - - hI hF; dsimp only [z03,bare]; simp only [z01,Act.put,zQ]
  go_wp2
  exact ⟨rfl,rfl,trivial,hI⟩
 ·
  rintro vals xw f hf1 - - hI hF; simp only [z05,zF,zR,and_true] at hF; have e1:=hF; dsimp only [z03,bare]; simp only [z01,Act.put,zQ]; simp only [e1]; have v0:=(z00 hI.2.1 0).1
  go_wp2
  exact ⟨rfl,rfl,trivial,hI⟩
 iterate 2
  ·
   rintro vals xw f hf1 - - hI hF; dsimp only [z03,bare]; simp only [z01,Act.put,zQ]
   go_wp2
   exact ⟨rfl,rfl,trivial,hI⟩
 ·
  rintro vals xw f hf1 - - hI hF; simp only [z05,zF,zR,and_true] at hF; have e1:=hF; dsimp only [z03,bare]; simp only [z01,Act.put,zQ]; simp only [e1]; have v0:=(z00 hI.2.1 0).1
  go_wp2
  exact ⟨rfl,rfl,trivial,hI⟩
 ·
  rintro vals xw f hf1 - - hI hF; simp only [z05,zF,zR,and_true] at hF; obtain ⟨e1,e2⟩:=hF; dsimp only [z03,bare]; simp only [z01,Act.put,zQ]; simp only [e1,e2]
  go_wp2_with fail
  refine (HCUT.out _).mono ?_; rintro e wx ⟨rfl,rfl⟩
  go_wp2
  exact ⟨rfl,rfl,trivial,hI⟩
 ·
  rintro vals xw f hf1 - - hI hF; simp only [z05,zF,zR,and_true] at hF; have e1:=hF; dsimp only [z03,bare]; simp only [z01,Act.put,zQ]; simp only [e1]
  go_wp2
  exact ⟨rfl,rfl,trivial,hI⟩
 ·
  rintro vals xw f hf1 - - hI hF; simp only [z05,zF,zR,and_true] at hF; obtain ⟨e1,e2⟩:=hF; dsimp only [z03,bare]; simp only [z01,Act.put,zQ]; simp only [e1,e2]
  go_wp2
  exact ⟨rfl,rfl,trivial,hI⟩
 ·
  rintro vals xw f hf1 - - hI hF; simp only [z05,zF,zR,and_true] at hF; have e1:=hF; dsimp only [z03,bare]; simp only [z01,Act.put,zQ]; simp only [e1]; obtain ⟨i1,i2,i3,i4⟩:=hI; have j3:=i3 hf1; have v0:=(z00 j3 0).1; have v1:=(z00 j3 1).1; have f0:=(z00 j3 0).2; have f1:=(z00 j3 1).2; have I1:=zH i1; have I2:=zH i2; have J3:=zH j3; clear i1 i2 i3 i4 j3
  go_wp2
  have h2:=z04 _ (w.heap.size + 1) 1 (.int .i64 (r : Int)) _ _ (z04 xw (w.heap.size + 1) 0 (.int .i64 (m : Int)) _ _ J3.out); exact ⟨rfl,trivial,trivial,z0b (z0b I1.out (by show w.heap.size <= w.heap.size + 1; omega) _) (by show w.heap.size <= w.heap.size + 1; omega) _,(heap_setCell_other _ _ _ _ (by show w.heap.size ≠ w.heap.size + 1; omega)).trans ((heap_setCell_other _ _ _ _ (by show w.heap.size ≠ w.heap.size + 1; omega)).trans I2.out),fun h => absurd ((z0h f 8).symm.trans h) (by simp),fun _ => h2⟩
 ·
  intro vals xw f hall hI hF; rw [show List.range _ = [0,1,2,3,4,5,6,7,8] from rfl] at hF; simp only [says,zF,zR,and_true] at hF; obtain ⟨i1,i2,i3,i4⟩:=hI; have j4:=i4 (hall 8 (by decide)); have k5:=(z00 j4 0).1; have k6:=(z00 j4 1).1; have kf5:=(z00 j4 0).2; have kf6:=(z00 j4 1).2; have I1:=zH i1; clear i1 i2 i3 i4 j4 hF; simp only [z01,Act.put,zQ]
  go_wp2
  refine bodyPost_ret (v:=(.agg #[.int .i64 (m : Int),.int .i64 (r : Int)])) (by simp [results,Tryz.results27,go_sem,k5,k6,kf5,kf6]) rfl ?_; exact ⟨rfl,I1.out⟩
def binTab : Value:=.agg #[.nilFunc,.nilFunc,.nilFunc,.func (Fn.func 52) #[] #[],.func (Fn.func 54) #[] #[],.func (Fn.func 55) #[] #[],.func (Fn.func 56) #[] #[],.func (Fn.func 57) #[] #[],.func (Fn.func 58) #[] #[],.func (Fn.func 59) #[] #[],.func (Fn.func 61) #[] #[],.func (Fn.func 62) #[] #[],.func (Fn.func 63) #[] #[],.func (Fn.func 64) #[] #[]]
def fnV (op : Int) : Value:=if op = 3 then (.func (Fn.func 52) #[] #[]) else if op = 4 then (.func (Fn.func 54) #[] #[]) else if op = 5 then (.func (Fn.func 55) #[] #[]) else if op = 6 then (.func (Fn.func 56) #[] #[]) else if op = 7 then (.func (Fn.func 57) #[] #[]) else if op = 8 then (.func (Fn.func 58) #[] #[]) else if op = 9 then (.func (Fn.func 59) #[] #[]) else if op = 10 then (.func (Fn.func 61) #[] #[]) else if op = 11 then (.func (Fn.func 62) #[] #[]) else if op = 12 then (.func (Fn.func 63) #[] #[]) else (.func (Fn.func 64) #[] #[])
theorem st_one {W : World} {b i : Nat} {cur : Array Value} {t : TypeId} (v : Value) (h : W.heap[b]? = some (.cells cur t (0,0))) (hi : i < cur.size) (hv : v.oneCell' = true) : (store ⟨b,i,none⟩ v).run Tryz.prog W = .ok () (W.setCell ⟨b,i,none⟩ v):=by
 have hc:=(z00 h i).1; have hf:=(z00 h i).2; rw [Array.getElem?_eq_getElem hi] at hc; rw [run_store _ _ _ _ _ hv]; simp [stored,hc,hf]
set_option maxRecDepth 100000 in
set_option maxHeartbeats 2000000 in
theorem binaries_any (w : World) : Calls Tryz.prog 28 #[] w fun e w' => e = .returned binTab /\ Below w.heap.size w w':=by
 have hb0 : Below w.heap.size w (w.alloc (.cells #[.nilFunc,.nilFunc,.nilFunc,.nilFunc,.nilFunc,.nilFunc,.nilFunc,.nilFunc,.nilFunc,.nilFunc,.nilFunc,.nilFunc,.nilFunc,.nilFunc] 60)):=(Below.refl _ _).alloc (Nat.le_refl _) _; have h0 : (w.alloc (.cells #[.nilFunc,.nilFunc,.nilFunc,.nilFunc,.nilFunc,.nilFunc,.nilFunc,.nilFunc,.nilFunc,.nilFunc,.nilFunc,.nilFunc,.nilFunc,.nilFunc] 60)).heap[w.heap.size]? = some (.cells #[.nilFunc,.nilFunc,.nilFunc,.nilFunc,.nilFunc,.nilFunc,.nilFunc,.nilFunc,.nilFunc,.nilFunc,.nilFunc,.nilFunc,.nilFunc,.nilFunc] 60 (0,0)):=heap_alloc_new _ _; obtain ⟨W0,hW0⟩ : ∃ W0,W0 = w.alloc (.cells #[.nilFunc,.nilFunc,.nilFunc,.nilFunc,.nilFunc,.nilFunc,.nilFunc,.nilFunc,.nilFunc,.nilFunc,.nilFunc,.nilFunc,.nilFunc,.nilFunc] 60):=⟨_,rfl⟩; rw [<- hW0] at h0 hb0; have s0:=st_one (i:=0) (.nilFunc) h0 (by simp) rfl; have h1:=z04 _ w.heap.size 0 (.nilFunc) _ _ h0; have hb1:=z0b (p:=⟨w.heap.size,0,none⟩) hb0 (Nat.le_refl _) (.nilFunc); obtain ⟨W1,hW1⟩ : ∃ Wq,Wq = W0.setCell ⟨w.heap.size,0,none⟩ (.nilFunc):=⟨_,rfl⟩; rw [<- hW1] at s0 h1 hb1; have s1:=st_one (i:=1) (.nilFunc) h1 (by simp) rfl; have h2:=z04 _ w.heap.size 1 (.nilFunc) _ _ h1; have hb2:=z0b (p:=⟨w.heap.size,1,none⟩) hb1 (Nat.le_refl _) (.nilFunc); obtain ⟨W2,hW2⟩ : ∃ Wq,Wq = W1.setCell ⟨w.heap.size,1,none⟩ (.nilFunc):=⟨_,rfl⟩; rw [<- hW2] at s1 h2 hb2; have s2:=st_one (i:=2) (.nilFunc) h2 (by simp) rfl; have h3:=z04 _ w.heap.size 2 (.nilFunc) _ _ h2; have hb3:=z0b (p:=⟨w.heap.size,2,none⟩) hb2 (Nat.le_refl _) (.nilFunc); obtain ⟨W3,hW3⟩ : ∃ Wq,Wq = W2.setCell ⟨w.heap.size,2,none⟩ (.nilFunc):=⟨_,rfl⟩; rw [<- hW3] at s2 h3 hb3; have s3:=st_one (i:=3) (.func (Fn.func 52) #[] #[]) h3 (by simp) rfl; have h4:=z04 _ w.heap.size 3 (.func (Fn.func 52) #[] #[]) _ _ h3; have hb4:=z0b (p:=⟨w.heap.size,3,none⟩) hb3 (Nat.le_refl _) (.func (Fn.func 52) #[] #[]); obtain ⟨W4,hW4⟩ : ∃ Wq,Wq = W3.setCell ⟨w.heap.size,3,none⟩ (.func (Fn.func 52) #[] #[]):=⟨_,rfl⟩; rw [<- hW4] at s3 h4 hb4; have s4:=st_one (i:=4) (.func (Fn.func 54) #[] #[]) h4 (by simp) rfl; have h5:=z04 _ w.heap.size 4 (.func (Fn.func 54) #[] #[]) _ _ h4; have hb5:=z0b (p:=⟨w.heap.size,4,none⟩) hb4 (Nat.le_refl _) (.func (Fn.func 54) #[] #[]); obtain ⟨W5,hW5⟩ : ∃ Wq,Wq = W4.setCell ⟨w.heap.size,4,none⟩ (.func (Fn.func 54) #[] #[]):=⟨_,rfl⟩; rw [<- hW5] at s4 h5 hb5; have s5:=st_one (i:=5) (.func (Fn.func 55) #[] #[]) h5 (by simp) rfl; have h6:=z04 _ w.heap.size 5 (.func (Fn.func 55) #[] #[]) _ _ h5; have hb6:=z0b (p:=⟨w.heap.size,5,none⟩) hb5 (Nat.le_refl _) (.func (Fn.func 55) #[] #[]); obtain ⟨W6,hW6⟩ : ∃ Wq,Wq = W5.setCell ⟨w.heap.size,5,none⟩ (.func (Fn.func 55) #[] #[]):=⟨_,rfl⟩; rw [<- hW6] at s5 h6 hb6; have s6:=st_one (i:=6) (.func (Fn.func 56) #[] #[]) h6 (by simp) rfl; have h7:=z04 _ w.heap.size 6 (.func (Fn.func 56) #[] #[]) _ _ h6; have hb7:=z0b (p:=⟨w.heap.size,6,none⟩) hb6 (Nat.le_refl _) (.func (Fn.func 56) #[] #[]); obtain ⟨W7,hW7⟩ : ∃ Wq,Wq = W6.setCell ⟨w.heap.size,6,none⟩ (.func (Fn.func 56) #[] #[]):=⟨_,rfl⟩; rw [<- hW7] at s6 h7 hb7; have s7:=st_one (i:=7) (.func (Fn.func 57) #[] #[]) h7 (by simp) rfl; have h8:=z04 _ w.heap.size 7 (.func (Fn.func 57) #[] #[]) _ _ h7; have hb8:=z0b (p:=⟨w.heap.size,7,none⟩) hb7 (Nat.le_refl _) (.func (Fn.func 57) #[] #[]); obtain ⟨W8,hW8⟩ : ∃ Wq,Wq = W7.setCell ⟨w.heap.size,7,none⟩ (.func (Fn.func 57) #[] #[]):=⟨_,rfl⟩; rw [<- hW8] at s7 h8 hb8; have s8:=st_one (i:=8) (.func (Fn.func 58) #[] #[]) h8 (by simp) rfl; have h9:=z04 _ w.heap.size 8 (.func (Fn.func 58) #[] #[]) _ _ h8; have hb9:=z0b (p:=⟨w.heap.size,8,none⟩) hb8 (Nat.le_refl _) (.func (Fn.func 58) #[] #[]); obtain ⟨W9,hW9⟩ : ∃ Wq,Wq = W8.setCell ⟨w.heap.size,8,none⟩ (.func (Fn.func 58) #[] #[]):=⟨_,rfl⟩; rw [<- hW9] at s8 h9 hb9; have s9:=st_one (i:=9) (.func (Fn.func 59) #[] #[]) h9 (by simp) rfl; have h10:=z04 _ w.heap.size 9 (.func (Fn.func 59) #[] #[]) _ _ h9; have hb10:=z0b (p:=⟨w.heap.size,9,none⟩) hb9 (Nat.le_refl _) (.func (Fn.func 59) #[] #[]); obtain ⟨W10,hW10⟩ : ∃ Wq,Wq = W9.setCell ⟨w.heap.size,9,none⟩ (.func (Fn.func 59) #[] #[]):=⟨_,rfl⟩; rw [<- hW10] at s9 h10 hb10; have s10:=st_one (i:=10) (.func (Fn.func 61) #[] #[]) h10 (by simp) rfl; have h11:=z04 _ w.heap.size 10 (.func (Fn.func 61) #[] #[]) _ _ h10; have hb11:=z0b (p:=⟨w.heap.size,10,none⟩) hb10 (Nat.le_refl _) (.func (Fn.func 61) #[] #[]); obtain ⟨W11,hW11⟩ : ∃ Wq,Wq = W10.setCell ⟨w.heap.size,10,none⟩ (.func (Fn.func 61) #[] #[]):=⟨_,rfl⟩; rw [<- hW11] at s10 h11 hb11; have s11:=st_one (i:=11) (.func (Fn.func 62) #[] #[]) h11 (by simp) rfl; have h12:=z04 _ w.heap.size 11 (.func (Fn.func 62) #[] #[]) _ _ h11; have hb12:=z0b (p:=⟨w.heap.size,11,none⟩) hb11 (Nat.le_refl _) (.func (Fn.func 62) #[] #[]); obtain ⟨W12,hW12⟩ : ∃ Wq,Wq = W11.setCell ⟨w.heap.size,11,none⟩ (.func (Fn.func 62) #[] #[]):=⟨_,rfl⟩; rw [<- hW12] at s11 h12 hb12; have s12:=st_one (i:=12) (.func (Fn.func 63) #[] #[]) h12 (by simp) rfl; have h13:=z04 _ w.heap.size 12 (.func (Fn.func 63) #[] #[]) _ _ h12; have hb13:=z0b (p:=⟨w.heap.size,12,none⟩) hb12 (Nat.le_refl _) (.func (Fn.func 63) #[] #[]); obtain ⟨W13,hW13⟩ : ∃ Wq,Wq = W12.setCell ⟨w.heap.size,12,none⟩ (.func (Fn.func 63) #[] #[]):=⟨_,rfl⟩; rw [<- hW13] at s12 h13 hb13; have s13:=st_one (i:=13) (.func (Fn.func 64) #[] #[]) h13 (by simp) rfl; have h14:=z04 _ w.heap.size 13 (.func (Fn.func 64) #[] #[]) _ _ h13; have hb14:=z0b (p:=⟨w.heap.size,13,none⟩) hb13 (Nat.le_refl _) (.func (Fn.func 64) #[] #[]); obtain ⟨W14,hW14⟩ : ∃ Wq,Wq = W13.setCell ⟨w.heap.size,13,none⟩ (.func (Fn.func 64) #[] #[]):=⟨_,rfl⟩; rw [<- hW14] at s13 h14 hb14; have HQ:=zH h14; have HBB:=zH hb14; have HW0:=zH hW0; clear hW0; clear hW1; clear hW2; clear hW3; clear hW4; clear hW5; clear hW6; clear hW7; clear hW8; clear hW9; clear hW10; clear hW11; clear hW12; clear hW13; clear hW14; have S0:=zH s0; clear s0; have S1:=zH s1; clear s1; have S2:=zH s2; clear s2; have S3:=zH s3; clear s3; have S4:=zH s4; clear s4; have S5:=zH s5; clear s5; have S6:=zH s6; clear s6; have S7:=zH s7; clear s7; have S8:=zH s8; clear s8; have S9:=zH s9; clear s9; have S10:=zH s10; clear s10; have S11:=zH s11; clear s11; have S12:=zH s12; clear s12; have S13:=zH s13; clear s13; clear h0 h1 h2 h3 h4 h5 h6 h7 h8 h9 h10 h11 h12 h13 h14 hb0 hb1 hb2 hb3 hb4 hb5 hb6 hb7 hb8 hb9 hb10 hb11 hb12 hb13 hb14
 go_enter Tryz.func28,Tryz.ntmps28
 go_wp2
 rw [<- HW0.out]; simp only [S0.out,S1.out,S2.out,S3.out,S4.out,S5.out,S6.out,S7.out,S8.out,S9.out,S10.out,S11.out,S12.out,S13.out,Result.andThen]
 go_wp2
 have hq:=HQ.out; have k0 : W14.cell? ⟨w.heap.size,0,none⟩ = some (.nilFunc):=(z00 hq 0).1; have g0:=(z00 hq 0).2; have k1 : W14.cell? ⟨w.heap.size,1,none⟩ = some (.nilFunc):=(z00 hq 1).1; have g1:=(z00 hq 1).2; have k2 : W14.cell? ⟨w.heap.size,2,none⟩ = some (.nilFunc):=(z00 hq 2).1; have g2:=(z00 hq 2).2; have k3 : W14.cell? ⟨w.heap.size,3,none⟩ = some (.func (Fn.func 52) #[] #[]):=(z00 hq 3).1; have g3:=(z00 hq 3).2; have k4 : W14.cell? ⟨w.heap.size,4,none⟩ = some (.func (Fn.func 54) #[] #[]):=(z00 hq 4).1; have g4:=(z00 hq 4).2; have k5 : W14.cell? ⟨w.heap.size,5,none⟩ = some (.func (Fn.func 55) #[] #[]):=(z00 hq 5).1; have g5:=(z00 hq 5).2; have k6 : W14.cell? ⟨w.heap.size,6,none⟩ = some (.func (Fn.func 56) #[] #[]):=(z00 hq 6).1; have g6:=(z00 hq 6).2; have k7 : W14.cell? ⟨w.heap.size,7,none⟩ = some (.func (Fn.func 57) #[] #[]):=(z00 hq 7).1; have g7:=(z00 hq 7).2; have k8 : W14.cell? ⟨w.heap.size,8,none⟩ = some (.func (Fn.func 58) #[] #[]):=(z00 hq 8).1; have g8:=(z00 hq 8).2; have k9 : W14.cell? ⟨w.heap.size,9,none⟩ = some (.func (Fn.func 59) #[] #[]):=(z00 hq 9).1; have g9:=(z00 hq 9).2; have k10 : W14.cell? ⟨w.heap.size,10,none⟩ = some (.func (Fn.func 61) #[] #[]):=(z00 hq 10).1; have g10:=(z00 hq 10).2; have k11 : W14.cell? ⟨w.heap.size,11,none⟩ = some (.func (Fn.func 62) #[] #[]):=(z00 hq 11).1; have g11:=(z00 hq 11).2; have k12 : W14.cell? ⟨w.heap.size,12,none⟩ = some (.func (Fn.func 63) #[] #[]):=(z00 hq 12).1; have g12:=(z00 hq 12).2; have k13 : W14.cell? ⟨w.heap.size,13,none⟩ = some (.func (Fn.func 64) #[] #[]):=(z00 hq 13).1; have g13:=(z00 hq 13).2; clear HQ S0 S1 S2 S3 S4 S5 S6 S7 S8 S9 S10 S11 S12 S13 HW0; refine bodyPost_ret (v:=binTab) (by simp [results,Tryz.results28,go_sem,binTab,k0,g0,k1,g1,k2,g2,k3,g3,k4,g4,k5,g5,k6,g6,k7,g7,k8,g8,k9,g9,k10,g10,k11,g11,k12,g12,k13,g13]) rfl ⟨rfl,HBB.out⟩
end Go.Proofs.YtemdmlmcidfodaaGreatDoor
