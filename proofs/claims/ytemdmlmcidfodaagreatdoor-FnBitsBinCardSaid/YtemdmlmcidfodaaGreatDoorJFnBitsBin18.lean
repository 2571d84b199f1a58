/- The reference's l7Fill, l1Two, l7From. -/
import Derived.Test.YtemdmlmcidfodaaGreatDoorJFnBitsBin0
import Derived.Test.YtemdmlmcidfodaaGreatDoorJFnBitsBin14
import Derived.Test.YtemdmlmcidfodaaGreatDoorJFnBitsBin16
namespace Go.Proofs.YtemdmlmcidfodaaGreatDoor
open Go Go.RowKit
def RetOI (xs : List Int) (w : World) (e : Ending) (w' : World) : Prop:=∃ B d,e = .returned (.slice B xs.length d) /\ OwnI w' w.heap.size (.slice B xs.length d) xs /\ Below w.heap.size w w'
set_option maxRecDepth 100000 in
set_option maxHeartbeats 2000000 in
theorem l7FillO_any (m : Int) (n : Nat) (w : World) (hn : n <= 500) :
  Calls Tryz.prog 117 #[.int .i64 m,.int .i64 (n : Int)] w (RetOI (List.replicate n m) w):=by
 have hal : Below w.heap.size w (w.alloc (.cells #[] 3)):=(Below.refl _ _).alloc (Nat.le_refl _) _; have hown0 : OwnI (w.alloc (.cells #[] 3)) w.heap.size (.slice (some ⟨w.heap.size,0,none⟩) ([] : List Int).length 0) []:=own_lit0I w
 go_enter Tryz.func117,Tryz.ntmps117
 go_wp2
 go_loopw [5,6] (fun s i wr => ∃ (j : Nat) (l : List Int) (B : Option Addr) (d : Nat),j <= n /\ i = .int .i64 j /\ s = .slice B l.length d /\ l.length = j /\ l = (List.replicate n m).take j /\ OwnI wr w.heap.size (.slice B l.length d) l /\ Below w.heap.size w wr) (fun _ i _ => n - (intOf i).toNat)
 case atStart => exact ⟨0,[],_,0,Nat.zero_le _,rfl,rfl,rfl,rfl,hown0,hal⟩
 case round =>
  obtain ⟨j,l,B,d,hj,rfl,rfl,hlj,hle,hown,hbr⟩:=hrel; have HLE:=zH hle; have HLJ:=zH hlj; have hl3 : l.length <= 1000:=by omega
  have hws : w.heap.size <= wr.heap.size:=hbr.size; clear hle hlj
  by_cases hlt : j < n
  ·
   have hlt2 : (j : Int) < n:=by omega
   obtain ⟨l2,hl2⟩ : ∃ l2,l2 = l ++ [m]:=⟨_,rfl⟩; have HL2:=zH hl2; clear hl2
   go_wp2_with (at_builtin; refine z0g (ys:=l2) (by rfl) (.tmp 13) (.tmp 15) (by rfl) (by rfl) (by rfl) hown (by omega) hws HL2.out ?_; intro B3 d3 w3 hown3 hg3 hbk3)
   have hb3:=hbr.grown hg3 hbr.size fun g e => (hown.lt g e).1
   clear hbk3 hg3 hown hbr
   go_roundw
   case rel => exact ⟨j + 1,l2,B3,d3,by omega,by go_num,rfl,by rw [HL2.out,List.length_append,HLJ.out]; rfl,by
     rw [HL2.out,HLE.out]; rw [List.take_replicate,List.take_replicate,Nat.min_eq_left hj,Nat.min_eq_left (by omega)]; exact (List.replicate_succ' ..).symm,hown3,hb3⟩
   case measure => simp [intOf]; omega
  ·
   have hje : j = n:=by omega
   have hfin : l = List.replicate n m:=by rw [HLE.out,hje]; exact List.take_of_length_le (by simp)
   go_wp2
   go_ret
   rw [<- hfin]; exact ⟨B,d,rfl,hown,hbr⟩
theorem pow_small {n : Nat} (h : n <= 16) : 2 ^ n <= 65536:=Nat.pow_le_pow_right (by omega) h
set_option maxHeartbeats 2000000 in
theorem l1Two_any (n : Nat) (w : World) (hn : n <= 16) :
  Calls Tryz.prog 30 #[.int .i64 (n : Int)] w (RetZ ((2 ^ n : Nat) : Int) w):=by
 obtain ⟨T,hT⟩ : ∃ T,T = 2 ^ n:=⟨_,rfl⟩; rw [<- hT]; have HT:=zH hT; clear hT
 go_enter Tryz.func30,Tryz.ntmps30
 go_wp2
 go_loop [3,4] (fun o i => ∃ (j p : Nat),j <= n /\ i = .int .i64 j /\ o = .int .i64 p /\ p <= 65536 /\ Hid (p = 2 ^ j)) (fun _ i => n - (intOf i).toNat)
 case atStart => exact ⟨0,1,Nat.zero_le _,rfl,rfl,by omega,zH rfl⟩
 case round =>
  obtain ⟨j,p,hj,rfl,rfl,hp,HP⟩:=hrel
  by_cases hlt : j < n
  ·
   have hlt2 : (j : Int) < n:=by omega
   have HP2 : Hid (p * 2 <= 65536 /\ p * 2 = 2 ^ (j + 1)):=zH ⟨by rw [HP.out,<- Nat.pow_succ]; exact pow_small (by omega),by rw [HP.out,Nat.pow_succ]⟩; have hq : ((p * 2 : Nat) : Int) <= 65536:=by have:=HP2.out.1; omega
   go_wp2
   go_round
   case rel => exact ⟨j + 1,p * 2,by omega,by go_num,by go_num,HP2.out.1,zH HP2.out.2⟩
   case measure => simp [intOf]; omega
  ·
   have hje : j = n:=by omega
   subst hje; have hpT : p = T:=by rw [HP.out,HT.out]
   subst hpT
   go_wp2
   go_ret
   exact ⟨rfl,.refl _ _⟩
def frV (up : Bool) (s : List Int) (step : Nat) (fill : Int) (k : Nat) : Int:=if up = true then (if k < step then fill else s.getD (k - step) 0) else if k + step < s.length then s.getD (k + step) 0 else fill
theorem fromL_eq (up : Bool) (s : List Int) (step : Nat) (fill : Int) : fromL up s step fill = (List.range s.length).map (frV up s step fill):=rfl
theorem fromL_at {up : Bool} {s : List Int} {step : Nat} {fill : Int} {k : Nat} (hk : k < s.length) : (fromL up s step fill)[k]? = some (frV up s step fill k):=by
 rw [fromL_eq,List.getElem?_map,List.getElem?_range hk]; rfl
set_option maxHeartbeats 2000000 in
theorem l7From_11 (s : List Int) (A : Option Addr) (c k step : Nat) (fill : Int) (w : World) (hS : Lay.int.Rd w A s) (hk : k < s.length) (hn : s.length <= 8) (hst : step <= 65536) :
  Calls Tryz.prog 121 #[.int .i64 11,.slice A s.length c,.int .i64 (k : Int),.int .i64 (step : Int),.int .i64 fill] w (RetZ (frV true s step fill k) w):=by
 by_cases hlt : k < step
 ·
  rw [show frV true s step fill k = fill by simp [frV,hlt]]; obtain ⟨d,hd⟩ : ∃ d : Nat,step = k + 1 + d:=⟨step - k - 1,by omega⟩; have h1 : (k : Int) - step < 0:=by omega
  go_enter Tryz.func121,Tryz.ntmps121
  go_wp2
  go_ret
  exact ⟨rfl,.refl _ _⟩
 ·
  obtain ⟨d,hd⟩ : ∃ d : Nat,d = k - step:=⟨_,rfl⟩; have hds : d < s.length:=by omega
  rw [show frV true s step fill k = s[d] by simp [frV,hlt,<- hd,List.getElem?_eq_getElem hds]]; have h1 : (k : Int) - step = d:=by omega
  obtain ⟨ad,rfl,-,hc⟩:=hS.at_int hds; generalize s[d] = x at *; clear hd hlt
  go_enter Tryz.func121,Tryz.ntmps121
  go_wp2
  go_ret
  exact ⟨rfl,.refl _ _⟩
set_option maxHeartbeats 2000000 in
theorem l7From_12 (s : List Int) (A : Option Addr) (c k step : Nat) (fill : Int) (w : World) (hS : Lay.int.Rd w A s) (hk : k < s.length) (hn : s.length <= 8) (hst : step <= 65536) :
  Calls Tryz.prog 121 #[.int .i64 12,.slice A s.length c,.int .i64 (k : Int),.int .i64 (step : Int),.int .i64 fill] w (RetZ (frV false s step fill k) w):=by
 obtain ⟨d,hd⟩ : ∃ d : Nat,d = k + step:=⟨_,rfl⟩; have h1 : (k : Int) + step = d:=by omega
 by_cases hds : d < s.length
 ·
  rw [show frV false s step fill k = s[d] by subst hd; simp [frV,hds]]; obtain ⟨ad,rfl,-,hc⟩:=hS.at_int hds; generalize s[d] = x at *; clear hd
  go_enter Tryz.func121,Tryz.ntmps121
  go_wp2
  go_ret
  exact ⟨rfl,.refl _ _⟩
 ·
  rw [show frV false s step fill k = fill by subst hd; simp [frV,hds]]; have h2 : ¬ (d : Int) < s.length:=by omega
  clear hd
  go_enter Tryz.func121,Tryz.ntmps121
  go_wp2
  go_ret
  exact ⟨rfl,.refl _ _⟩
set_option maxHeartbeats 2000000 in
theorem l7From_13 (s : List Int) (A : Option Addr) (c k step : Nat) (fill : Int) (w : World) (hS : Lay.int.Rd w A s) (hk : k < s.length) (hn : s.length <= 8) (hst : step <= 65536) :
  Calls Tryz.prog 121 #[.int .i64 13,.slice A s.length c,.int .i64 (k : Int),.int .i64 (step : Int),.int .i64 fill] w (RetZ (frV false s step fill k) w):=by
 obtain ⟨d,hd⟩ : ∃ d : Nat,d = k + step:=⟨_,rfl⟩; have h1 : (k : Int) + step = d:=by omega
 by_cases hds : d < s.length
 ·
  rw [show frV false s step fill k = s[d] by subst hd; simp [frV,hds]]; obtain ⟨ad,rfl,-,hc⟩:=hS.at_int hds; generalize s[d] = x at *; clear hd
  go_enter Tryz.func121,Tryz.ntmps121
  go_wp2
  go_ret
  exact ⟨rfl,.refl _ _⟩
 ·
  rw [show frV false s step fill k = fill by subst hd; simp [frV,hds]]; have h2 : ¬ (d : Int) < s.length:=by omega
  clear hd
  go_enter Tryz.func121,Tryz.ntmps121
  go_wp2
  go_ret
  exact ⟨rfl,.refl _ _⟩
end Go.Proofs.YtemdmlmcidfodaaGreatDoor
