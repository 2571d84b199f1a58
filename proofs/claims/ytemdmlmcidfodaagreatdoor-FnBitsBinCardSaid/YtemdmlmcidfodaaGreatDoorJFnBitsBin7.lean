/- Nets as arguments and answers: sizes, copies, comparisons, marks; in the laws' one form. -/
import Derived.Test.YtemdmlmcidfodaaGreatDoorJFnBitsBin0
import Derived.Test.YtemdmlmcidfodaaGreatDoorJFnBitsBin2
import Derived.Test.YtemdmlmcidfodaaGreatDoorJFnBitsBin5
import Derived.Test.YtemdmlmcidfodaaGreatDoorJFnBitsBin6
namespace Go.Proofs.YtemdmlmcidfodaaGreatDoor
open Go Go.RowKit Go.Maps
theorem has_any (lo r : Nat) (n : N) (ks : List G) (s : Int) (w : World) (h : Circ lo w r n ks) (hn : n.gs.length <= 600) (h0 : 0 <= n.ins) (h1 : n.ins <= 8) (s0 : -9223372036854775808 <= s) (s1 : s <= 9223372036854775807) :
  Calls Tryz.prog 74 #[.pointer (some ⟨r,0,none⟩),.int .i64 s] w fun e w' => e = .returned (.bool (z07 n s)) /\ Below w.heap.size w w':=by
 obtain ⟨A,c,b,hr,_,_,_,_⟩:=h; have z0 : w.cell? ⟨r,0,none⟩ = some (.int .i64 n.ins):=(z00 hr 0).1; have z1 : w.cell? ⟨r,1,none⟩ = some (.slice A n.gs.length c):=(z00 hr 1).1; have z0:=z0f.cell z0; have z1:=z0f.cell z1; clear hr; have hk1 : (n.gs.length : Int) <= 1048576:=by omega
 have hk0 : (0 : Int) <= n.gs.length:=by omega
 unfold z07
 go_enter Tryz.func74,Tryz.ntmps74
 go_wp2
 refine wp_region_later (by kernel_rfl) (by kernel_rfl) ?_
 repeat (go_big_quiet_step ((first | (go_at_call 101; with_reducible exact z2a (nodes_any A c n.gs.length n.ins n.gs.length _ (by omega) (by omega) hk0 hk1)) | (go_at_call 94; with_reducible exact later_of_same (of_any s _ _ s0 s1 (by omega) (by omega))))))
 refine wpQuiet_nil ?_; rintro _ ⟨x,rfl⟩
 go_wp2
 go_ret
 exact ⟨rfl,x.le⟩
def RetSig (lo : Nat) (w : World) (r : Nat) (m : N × Int) (e : Ending) (w' : World) : Prop :=
 e = .returned (.int .i64 m.2) /\ BelK lo w w' /\ (m.2 ≠ 0 -> Circ lo w' r m.1 m.1.gs)
theorem and1_1 {n : N} {a b : Int} (h : a = -1 \/ b = -1) : and1 n a b = (n,-1):=by unfold and1; rw [if_pos (by omega)]
theorem and1_2 {n : N} {a b : Int} (h : ¬ (a = -1 \/ b = -1)) (h2 : a = 1) : and1 n a b = (n,b):=by unfold and1; rw [if_neg (by omega),if_pos (by omega)]
theorem and1_3 {n : N} {a b : Int} (h : ¬ (a = -1 \/ b = -1)) (h2 : a ≠ 1) (h3 : b = 1) : and1 n a b = (n,a):=by unfold and1; rw [if_neg (by omega),if_neg (by omega),if_pos (by omega)]
theorem and1_4 {n : N} {a b : Int} (h : ¬ (a = -1 \/ b = -1)) (h0 : a ≠ 0) (h2 : a = b) : and1 n a b = (n,a):=by unfold and1; rw [if_neg (by omega),if_pos (by omega),h2]
theorem and1_5 {n : N} {a b : Int} (h2 : a = -b) : and1 n a b = (n,-1):=by unfold and1; rw [if_pos (by omega)]
theorem and1_6 {n : N} {a b : Int} (h1 : ¬ (a = -1 \/ b = -1)) (h2 : a ≠ 1) (h3 : b ≠ 1) (h4 : a ≠ b) (h5 : a ≠ -b) : and1 n a b = put n (sortG ⟨false,a,b⟩):=by
 unfold and1 sortG; rw [if_neg (by omega),if_neg (by omega),if_neg (by omega)]; split <;> rfl
theorem implAnd_any (lo r : Nat) (n : N) (a b : Int) (w : World) (h : Circ lo w r n n.gs) (hn : n.gs.length <= 600) (h0 : 0 <= n.ins) (h1 : n.ins <= 8) (ha : -2000000000 <= a /\ a <= 2000000000) (hb : -2000000000 <= b /\ b <= 2000000000) (hz : a ≠ 0) :
  Calls Tryz.prog 106 #[.pointer (some ⟨r,0,none⟩),.int .i64 a,.int .i64 b] w (RetSig lo w r (and1 n a b)):=by
 have eb : IntKind.i64.wrap (-b) = -b:=IntWalk.i64_in _ (by omega)
 by_cases c1 : a = -1 \/ b = -1
 ·
  rw [and1_1 c1]; have t : (a == -1 || b == -1) = true:=by simp; omega
  by_cases c0 : a = -1
  ·
   have t0 : (a == -1) = true:=by simp [c0]
   clear c1 t; have C0:=zH c0; clear c0
   go_enter Tryz.func106,Tryz.ntmps106
   go_wp2
   go_ret
   exact ⟨rfl,BelK.refl _ _,fun _ => h⟩
  ·
   have t0 : (a == -1) = false:=by simp [c0]
   have t1 : (b == -1) = true:=by simp; omega
   clear c1 t
   go_enter Tryz.func106,Tryz.ntmps106
   go_wp2
   go_ret
   exact ⟨rfl,BelK.refl _ _,fun _ => h⟩
 have t0 : (a == -1) = false:=by simp; omega
 have t1 : (b == -1) = false:=by simp; omega
 by_cases c2 : a = 1
 ·
  rw [and1_2 c1 c2]; have t2 : (a == 1) = true:=by simp [c2]
  have C2:=zH c2; clear c1 c2
  go_enter Tryz.func106,Tryz.ntmps106
  go_wp2
  go_ret
  exact ⟨rfl,BelK.refl _ _,fun _ => h⟩
 have t2 : (a == 1) = false:=by simp [c2]
 by_cases c3 : b = 1
 ·
  rw [and1_3 c1 c2 c3]; have t3 : (b == 1) = true:=by simp [c3]
  clear c1 c3 eb
  go_enter Tryz.func106,Tryz.ntmps106
  go_wp2
  go_ret
  exact ⟨rfl,BelK.refl _ _,fun _ => h⟩
 have t3 : (b == 1) = false:=by simp [c3]
 by_cases c4 : a = b
 ·
  rw [and1_4 c1 hz c4]; have t4 : (a == b) = true:=by simp [c4]
  clear c1 c4
  go_enter Tryz.func106,Tryz.ntmps106
  go_wp2
  go_ret
  exact ⟨rfl,BelK.refl _ _,fun _ => h⟩
 have t4 : (a == b) = false:=by simp [c4]
 by_cases c5 : a = -b
 ·
  rw [and1_5 c5]; have t5 : (a == -b) = true:=by simp [c5]
  clear c1 c5
  go_enter Tryz.func106,Tryz.ntmps106
  go_wp2
  go_ret
  exact ⟨rfl,BelK.refl _ _,fun _ => h⟩
 have t5 : (a == -b) = false:=by simp [c5]
 rw [and1_6 c1 c2 c3 c4 c5]; clear c1 c2 c3 c4 c5
 go_enter Tryz.func106,Tryz.ntmps106
 go_wp2_with fail
 refine (gate_any lo r n ⟨false,a,b⟩ w h hn h0 h1 ha hb).mono ?_; rintro e w' ⟨rfl,hb2,hc2⟩
 go_wp2
 go_ret
 exact ⟨rfl,hb2,hc2⟩
theorem xor1_1 {n : N} {a b : Int} (h : a = 1 \/ a = -1) : xor1 n a b = (n,if (a == 1) = true then -b else b):=by
 unfold xor1; rw [if_pos h]
 rcases h with rfl | rfl
 · simp
 · simp
theorem xor1_2 {n : N} {a b : Int} (h1 : ¬ (a = 1 \/ a = -1)) (h : b = 1 \/ b = -1) : xor1 n a b = (n,if (b == 1) = true then -a else a):=by
 unfold xor1; rw [if_neg h1,if_pos h]
 rcases h with rfl | rfl
 · simp
 · simp
theorem xor1_3 {n : N} {a b : Int} (h1 : ¬ (a = 1 \/ a = -1)) (h2 : ¬ (b = 1 \/ b = -1)) (h : a = b) : xor1 n a b = (n,-1):=by unfold xor1; rw [if_neg h1,if_neg h2,if_pos h]
theorem xor1_4 {n : N} {a b : Int} (h1 : ¬ (a = 1 \/ a = -1)) (h2 : ¬ (b = 1 \/ b = -1)) (h3 : a ≠ b) (h : a = -b) : xor1 n a b = (n,1):=by unfold xor1; rw [if_neg h1,if_neg h2,if_neg h3,if_pos h]
theorem sgn_mul (a b k : Int) : sgn a * sgn b * k = if (decide (a < 0) != decide (b < 0)) = true then -k else k:=by
 unfold sgn
 by_cases ha : a < 0 <;> by_cases hb : b < 0 <;> simp [ha,hb]
theorem xor1_5 {n : N} {a b : Int} (h1 : ¬ (a = 1 \/ a = -1)) (h2 : ¬ (b = 1 \/ b = -1)) (h3 : a ≠ b) (h4 : a ≠ -b) :
  xor1 n a b = ((put n (sortG ⟨true,a.natAbs,b.natAbs⟩)).1,if (decide (a < 0) != decide (b < 0)) = true then -(put n (sortG ⟨true,a.natAbs,b.natAbs⟩)).2 else (put n (sortG ⟨true,a.natAbs,b.natAbs⟩)).2):=by
 unfold xor1; rw [if_neg h1,if_neg h2,if_neg h3,if_neg h4]; have hs : (if b.natAbs < a.natAbs then (⟨true,(b.natAbs : Int),(a.natAbs : Int)⟩ : G) else ⟨true,(a.natAbs : Int),(b.natAbs : Int)⟩) = sortG ⟨true,a.natAbs,b.natAbs⟩:=by
  unfold sortG; simp only [Int.natAbs_natCast]
 simp only [hs,sgn_mul]
set_option maxRecDepth 100000 in
set_option maxHeartbeats 1000000 in
theorem implXor_any (lo r : Nat) (n : N) (a b : Int) (w : World) (h : Circ lo w r n n.gs) (hn : n.gs.length <= 600) (h0 : 0 <= n.ins) (h1 : n.ins <= 8) (ha : -2000000000 <= a /\ a <= 2000000000) (hb : -2000000000 <= b /\ b <= 2000000000) :
  Calls Tryz.prog 107 #[.pointer (some ⟨r,0,none⟩),.int .i64 a,.int .i64 b] w (RetSig lo w r (xor1 n a b)):=by
 have eb : IntKind.i64.wrap (-b) = -b:=IntWalk.i64_in _ (by omega); obtain ⟨na,hna⟩ : ∃ na : Int,na = a.natAbs:=⟨_,rfl⟩; obtain ⟨nb,hnb⟩ : ∃ nb : Int,nb = b.natAbs:=⟨_,rfl⟩; have qa : ∀ W : World,Calls Tryz.prog 95 #[.int .i64 a] W fun e w' => e = .returned (.int .i64 na) /\ W = w':=fun W => by rw [hna]; exact node_any a W (by omega) (by omega)
 have qb : ∀ W : World,Calls Tryz.prog 95 #[.int .i64 b] W fun e w' => e = .returned (.int .i64 nb) /\ W = w':=fun W => by rw [hnb]; exact node_any b W (by omega) (by omega)
 have Qa:=zH qa; have Qb:=zH qb; have NA:=zH hna; have NB:=zH hnb; clear qa qb
 by_cases c1 : a = 1 \/ a = -1
 ·
  have t1 : (na == 1) = true:=by simp; omega
  clear hna hnb eb
  rcases c1 with rfl | rfl
  ·
   rw [show xor1 n 1 b = (n,-b) from by rw [xor1_1 (.inl rfl)]; rfl]
   go_enter Tryz.func107,Tryz.ntmps107
   go_wp2_with fail
   refine (Qa.out _).mono ?_; rintro e w' ⟨rfl,rfl⟩
   go_wp2_with fail
   refine (turned_any b true _ (by omega) (by omega)).mono ?_; rintro e w' ⟨rfl,rfl⟩
   go_wp2
   go_ret
   exact ⟨rfl,BelK.refl _ _,fun _ => h⟩
  ·
   rw [show xor1 n (-1) b = (n,b) from by rw [xor1_1 (.inr rfl)]; rfl]
   go_enter Tryz.func107,Tryz.ntmps107
   go_wp2_with fail
   refine (Qa.out _).mono ?_; rintro e w' ⟨rfl,rfl⟩
   go_wp2_with fail
   refine (turned_any b false _ (by omega) (by omega)).mono ?_; rintro e w' ⟨rfl,rfl⟩
   go_wp2
   go_ret
   exact ⟨rfl,BelK.refl _ _,fun _ => h⟩
 have t1 : (na == 1) = false:=by simp; omega
 by_cases c2 : b = 1 \/ b = -1
 ·
  have t2 : (nb == 1) = true:=by simp; omega
  clear hna hnb eb
  rcases c2 with rfl | rfl
  ·
   rw [show xor1 n a 1 = (n,-a) from by rw [xor1_2 c1 (.inl rfl)]; rfl]; clear c1
   go_enter Tryz.func107,Tryz.ntmps107
   go_wp2_with fail
   refine (Qa.out _).mono ?_; rintro e w' ⟨rfl,rfl⟩
   go_wp2_with fail
   refine (Qb.out _).mono ?_; rintro e w' ⟨rfl,rfl⟩
   go_wp2_with fail
   refine (turned_any a true _ (by omega) (by omega)).mono ?_; rintro e w' ⟨rfl,rfl⟩
   go_wp2
   go_ret
   exact ⟨rfl,BelK.refl _ _,fun _ => h⟩
  ·
   rw [show xor1 n a (-1) = (n,a) from by rw [xor1_2 c1 (.inr rfl)]; rfl]; clear c1
   go_enter Tryz.func107,Tryz.ntmps107
   go_wp2_with fail
   refine (Qa.out _).mono ?_; rintro e w' ⟨rfl,rfl⟩
   go_wp2_with fail
   refine (Qb.out _).mono ?_; rintro e w' ⟨rfl,rfl⟩
   go_wp2_with fail
   refine (turned_any a false _ (by omega) (by omega)).mono ?_; rintro e w' ⟨rfl,rfl⟩
   go_wp2
   go_ret
   exact ⟨rfl,BelK.refl _ _,fun _ => h⟩
 have t2 : (nb == 1) = false:=by simp; omega
 by_cases c3 : a = b
 ·
  rw [xor1_3 c1 c2 c3]; have t3 : (a == b) = true:=by simp [c3]
  clear c1 c2 c3 hna hnb
  go_enter Tryz.func107,Tryz.ntmps107
  go_wp2_with fail
  refine (Qa.out _).mono ?_; rintro e w' ⟨rfl,rfl⟩
  go_wp2_with fail
  refine (Qb.out _).mono ?_; rintro e w' ⟨rfl,rfl⟩
  go_wp2
  go_ret
  exact ⟨rfl,BelK.refl _ _,fun _ => h⟩
 have t3 : (a == b) = false:=by simp [c3]
 by_cases c4 : a = -b
 ·
  rw [xor1_4 c1 c2 c3 c4]; have t4 : (a == -b) = true:=by simp [c4]
  clear c1 c2 c3 c4 hna hnb
  go_enter Tryz.func107,Tryz.ntmps107
  go_wp2_with fail
  refine (Qa.out _).mono ?_; rintro e w' ⟨rfl,rfl⟩
  go_wp2_with fail
  refine (Qb.out _).mono ?_; rintro e w' ⟨rfl,rfl⟩
  go_wp2
  go_ret
  exact ⟨rfl,BelK.refl _ _,fun _ => h⟩
 have t4 : (a == -b) = false:=by simp [c4]
 have hpr:=z2i n (sortG ⟨true,a.natAbs,b.natAbs⟩) (by omega) h0 (by omega); have hga:=gate_any lo r n ⟨true,na,nb⟩ w h hn h0 h1 (by rw [hna]; dsimp only; omega) (by rw [hnb]; dsimp only; omega); rw [xor1_5 c1 c2 c3 c4]; rw [<- hna,<- hnb] at hpr ⊢; have HGA:=zH hga; clear c1 c2 c3 c4 hna hnb hga; generalize hP : put n (sortG ⟨true,na,nb⟩) = pp at *; have HPP:=zH hP; clear hP; obtain ⟨hp0,hp1⟩:=hpr
 by_cases sa : a < 0 <;> by_cases sb : b < 0
 all_goals
  simp only [sa,sb,decide_true,decide_false,bne_self_eq_false,Bool.false_eq_true,if_false,if_true,show (true != false) = true from rfl,show (false != true) = true from rfl]
  go_enter Tryz.func107,Tryz.ntmps107
  go_wp2_with fail
  refine (Qa.out _).mono ?_; rintro e w' ⟨rfl,rfl⟩
  go_wp2_with fail
  refine (Qb.out _).mono ?_; rintro e w' ⟨rfl,rfl⟩
  go_wp2_with fail
  refine (Qa.out _).mono ?_; rintro e w' ⟨rfl,rfl⟩
  go_wp2_with fail
  refine (Qb.out _).mono ?_; rintro e w' ⟨rfl,rfl⟩
  go_wp2_with fail
  refine HGA.out.mono ?_; unfold RetGate; rw [HPP.out]; rintro e w' ⟨rfl,hb2,hc2⟩
  go_wp2_with fail
  refine (turned_any pp.2 _ _ (by omega) (by omega)).mono ?_; rintro e w' ⟨rfl,rfl⟩
  go_wp2
  go_ret
  exact ⟨rfl,hb2,fun h9 => hc2 (by first | exact h9 | (intro e; exact h9 (by show -pp.2 = 0; omega)))⟩
set_option maxRecDepth 100000 in
theorem clone_any (A : Option Addr) (c : Nat) (xs : List G) (w : World) (h : Lay.gate.Rd w A xs) (hn : xs.length <= 1048576) (hA : A = none -> xs.length = 0) :
  Calls Tryz.prog 100 #[.slice A xs.length c] w (RetGs w xs):=by
 obtain ⟨i0,hi0,hz0,hz1,hz2⟩:=info_parts gate_info
 cases A with
 | none =>
  have h0 : xs = []:=List.eq_nil_of_length_eq_zero (hA rfl); subst h0; have he : ∀ w : World,(binOp .eql 27 (.slice none 0 c) (.slice none 0 0)).run Tryz.prog w = .ok (.bool true) w:=fun _ => rfl
  go_enter Tryz.func100,Tryz.ntmps100
  go_wp2
  go_ret
  exact ⟨none,0,rfl,World.ownsRow_nil _ _ _ _,Below.refl _ _⟩
 | some ad =>
  clear hA; have he : ∀ w : World,(binOp .eql 27 (.slice (some ad) xs.length c) (.slice none 0 0)).run Tryz.prog w = .ok (.bool false) w:=fun _ => rfl
  go_enter Tryz.func100,Tryz.ntmps100
  go_wp2_with (at_builtin; refine z0w _ (by rfl) (.tmp 5) (.tmp 6) _ (by rfl) w.heap.size 78 i0 _ 3 24 Tryz.underlying27 hi0 hz0 hz1 hz2 (by rfl) (by omega) (.slice (some ⟨w.heap.size,0,none⟩) 0 0) 0 [] (by rfl) (z18 rfl) (some ad) xs.length c (xs.flatMap z0k) (by rfl) (src_gates (Lay.Sl.up h ((Below.refl _ _).alloc (Nat.le_refl _) _))) (gcells_one _) xs.length (by omega) (by unfold maxLen; omega) (by omega) (by simp) (by simp) ?_; intro A1 c1 w1 hown1 hb1 _)
  have hbw : Below w.heap.size w w1:=((Below.refl _ _).alloc (Nat.le_refl _) _).trans hb1
  go_ret
  exact ⟨A1,c1,rfl,by unfold z0x; simpa using hown1,hbw⟩
def RetReadN (w : World) (n : N) (e : Ending) (w' : World) : Prop :=
 Below w.heap.size w w' /\ ((z0q n = true /\ ∃ r,e = .returned (.tuple #[.pointer (some ⟨r,0,none⟩),.bool true]) /\ Circ w.heap.size w' r n n.gs) \/ (z0q n = false /\ e = .returned (.tuple #[.pointer none,.bool false])))
theorem read_no {w w' : World} {n : N} (h : z0q n = false) (hb : Below w.heap.size w w') : RetReadN w n (.returned (.tuple #[.pointer none,.bool false])) w':=⟨hb,.inr ⟨h,rfl⟩⟩
def Fact.rowG (lo : Nat) (xs : List G) : Fact :=
 .of (fun v x => ∃ A c,v = .slice A xs.length c /\ z0x x lo (.slice A xs.length c) xs) fun _ _ _ ⟨A,c,h1,h2⟩ hb => ⟨A,c,h1,h2.up hb⟩
def Fact.netG (lo : Nat) (n : N) : Fact :=
 .of (fun v x => ∃ A c,v = .agg #[.int .i64 n.ins,.slice A n.gs.length c] /\ z0x x lo (.slice A n.gs.length c) n.gs) fun _ _ _ ⟨A,c,h1,h2⟩ hb => ⟨A,c,h1,h2.up hb⟩
def Fact.mapG (lo : Nat) (ins : Int) : Fact :=
 .of (fun v x => ∃ b,v = .map (some b) /\ lo <= b /\ z25 x b ins []) fun _ _ _ ⟨b,h1,h2,h3⟩ hb => ⟨b,h1,h2,h3.keep (hb.block b h3.lt)⟩
def Fact.circG (lo : Nat) (n : N) : Fact :=
 .of (fun v x => ∃ A c b,v = .agg #[.int .i64 n.ins,.slice A n.gs.length c,.map (some b)] /\ z0x x lo (.slice A n.gs.length c) n.gs /\ lo <= b /\ z25 x b n.ins []) fun _ _ _ ⟨A,c,b,h1,h2,h3,h4⟩ hb => ⟨A,c,b,h1,h2.up hb,h3,h4.keep (hb.block b h4.lt)⟩
def Fact.ptrG (W : World) (n : N) : Fact :=
 .of (fun v x => ∃ r,v = .pointer (some ⟨r,0,none⟩) /\ Circ W.heap.size x r n [] /\ Below W.heap.size W x) fun _ _ _ ⟨r,h1,h2,h3⟩ hb => ⟨r,h1,h2.up hb,z09 h3 hb⟩
theorem good_no_ok {n : N} {k : Nat} {g : G} (hg : n.gs[k]? = some g) (hk : k < n.gs.length) (h : g.a < -(1 + n.ins + k) \/ 1 + n.ins + k < g.a \/ g.b < -(1 + n.ins + k) \/ 1 + n.ins + k < g.b \/ (g.a.natAbs : Int) < 2 \/ (g.b.natAbs : Int) <= g.a.natAbs) : z0q n = false:=by
 refine netOk_no (.inr (.inr (.inr ⟨k,hk,?_⟩))); unfold goodAt goodG okG; rw [hg]; simp only [okG_no h,Bool.false_and]
theorem good_no_x {n : N} {k : Nat} {g : G} (hg : n.gs[k]? = some g) (hk : k < n.gs.length) (h : g.x = true /\ (g.a < 0 \/ g.b < 0)) : z0q n = false:=by
 refine netOk_no (.inr (.inr (.inr ⟨k,hk,?_⟩))); unfold goodAt goodG okG; rw [hg,Bool.eq_false_iff]; intro e; simp only [Bool.and_eq_true,Bool.not_eq_true',Bool.and_eq_false_iff,Bool.or_eq_false_iff,decide_eq_false_iff_not] at e; obtain ⟨⟨_,e⟩,_⟩:=e
 rcases e with e | ⟨e1,e2⟩
 · rw [h.1] at e; cases e
 · omega
theorem good_no_mem {n : N} {k : Nat} {g : G} (hg : n.gs[k]? = some g) (hk : k < n.gs.length) (h : g ∈ n.gs.take k) : z0q n = false:=by
 refine netOk_no (.inr (.inr (.inr ⟨k,hk,?_⟩))); unfold goodAt goodG; rw [hg]; have : (n.gs.take k).contains g = true:=List.contains_iff_mem.2 h; simp only [this,Bool.not_true,Bool.and_false]
theorem good_yes {n : N} {k : Nat} {g : G} (hg : n.gs[k]? = some g) (h1 : -(1 + n.ins + k) <= g.a) (h2 : g.a <= 1 + n.ins + k) (h3 : -(1 + n.ins + k) <= g.b) (h4 : g.b <= 1 + n.ins + k) (h5 : 2 <= (g.a.natAbs : Int)) (h6 : (g.a.natAbs : Int) < g.b.natAbs)
  (hx : ¬ (g.x = true /\ (g.a < 0 \/ g.b < 0))) (hm : g ∉ n.gs.take k) : goodAt n k = true:=by
 unfold goodAt goodG okG; rw [hg]; simp only [okG_yes h1 h2 h3 h4 h5 h6]; have hc : (n.gs.take k).contains g = false:=by
  cases h : (n.gs.take k).contains g with
  | false => rfl
  | true => exact absurd (List.contains_iff_mem.1 h) hm
 rw [hc]
 cases hgx : g.x with
 | false => rfl
 | true =>
  have : ¬ (g.a < 0 \/ g.b < 0):=fun h => hx ⟨hgx,h⟩
  have h7 : decide (g.a < 0) = false:=by simp; omega
  have h8 : decide (g.b < 0) = false:=by simp; omega
  rw [h7,h8]; rfl
set_option maxRecDepth 100000 in
set_option maxHeartbeats 8000000 in
theorem readNet_any (A : Option Addr) (c : Nat) (n : N) (w : World) (h : Lay.gate.Rd w A n.gs) (hn : n.gs.length <= 1048576) (hA : A = none -> n.gs.length = 0) (hi : okInts n) :
  Calls Tryz.prog 70 #[.agg #[.int .i64 n.ins,.slice A n.gs.length c]] w (RetReadN w n):=by
 have hw : Below w.heap.size w (w.alloc (.cells #[.int .i64 n.ins,.slice A n.gs.length c] 29)):=(Below.refl _ _).alloc (Nat.le_refl _) _
 by_cases h0 : n.ins < 0
 ·
  have HN:=zH (netOk_no (.inl h0))
  go_enter Tryz.func70,Tryz.ntmps70
  go_wp2
  go_ret2
  exact read_no HN.out hw
 by_cases h1 : 8 < n.ins
 ·
  have HN:=zH (netOk_no (.inr (.inl h1)))
  go_enter Tryz.func70,Tryz.ntmps70
  go_wp2
  go_ret2
  exact read_no HN.out hw
 by_cases h2 : 600 < n.gs.length
 ·
  have HN:=zH (netOk_no (.inr (.inr (.inl h2))))
  go_enter Tryz.func70,Tryz.ntmps70
  go_wp2
  go_ret2
  exact read_no HN.out hw
 have v0 : (w.alloc (.cells #[.int .i64 n.ins,.slice A n.gs.length c] 29)).cell? ⟨w.heap.size,0,none⟩ = some (.int .i64 n.ins):=by simp [go_sem]
 have v1 : (w.alloc (.cells #[.int .i64 n.ins,.slice A n.gs.length c] 29)).cell? ⟨w.heap.size,1,none⟩ = some (.slice A n.gs.length c):=by simp [go_sem]
 have hlo1 : w.heap.size <= (w.alloc (.cells #[.int .i64 n.ins,.slice A n.gs.length c] 29)).heap.size:=by simp
 have H:=h.up hw
 go_enter Tryz.func70,Tryz.ntmps70
 go_wp2
 generalize w.alloc (.cells #[.int .i64 n.ins,.slice A n.gs.length c] 29) = W1 at *; have d0:=z0f.cell v0; have d1:=z0f.cell v1; refine z0d [[],[(0,25)],[],[(2,27)],[(3,28)],[(1,26),(4,29)],[],[(5,30),(6,31)],[(7,32)],[(8,33)]]
  [.eq (.pointer (some ⟨w.heap.size,0,none⟩)),.eq (.int .i64 n.ins),.eq (.pointer (some ⟨w.heap.size,1,none⟩)),.eq (.slice A n.gs.length c),Fact.rowG W1.heap.size n.gs,Fact.netG W1.heap.size n,Fact.mapG W1.heap.size n.ins,Fact.circG W1.heap.size n,Fact.ptrG W1 n,Fact.ptrG W1 n]
  [] [] [] [9] [(0,25),(1,26),(2,27),(3,28),(4,29),(5,30),(6,31),(7,32),(8,33),(9,4)] (by kernel_rfl) (by kernel_rfl) (by kernel_rfl) (by kernel_rfl)
  ⟨?_,?_,?_,?_,?_,?_,?_,?_,?_,?_,trivial⟩ ?_
 ·
  intro vals x hC hF; simp only [z01,Act.put,zQ]
  go_wp2
  exact ⟨rfl,rfl,.inr (Below.refl _ _),.inr (.inl (by simp))⟩
 ·
  intro vals x hC hF; have hC:=hC.resolve_left (by simp); have hsz:=hC.size; have e1 : x.cell? _ = _:=d0 ⟨x,hC⟩; simp only [z0c,zR,Fact.eq,Fact.row,Fact.lit,Fact.lit0,Fact.of,and_true,Fact.rowG,Fact.netG,Fact.mapG,Fact.circG,Fact.ptrG] at hF; simp only [z01,Act.put,zQ]; simp only [hF]
  go_wp2
  exact ⟨rfl,rfl,.inr (Below.refl _ _),.inr (.inl (by simp))⟩
 ·
  intro vals x hC hF; simp only [z01,Act.put,zQ]
  go_wp2
  exact ⟨rfl,rfl,.inr (Below.refl _ _),.inr (.inl (by simp))⟩
 ·
  intro vals x hC hF; have hC:=hC.resolve_left (by simp); have hsz:=hC.size; have e1 : x.cell? _ = _:=d1 ⟨x,hC⟩; simp only [z0c,zR,Fact.eq,Fact.row,Fact.lit,Fact.lit0,Fact.of,and_true,Fact.rowG,Fact.netG,Fact.mapG,Fact.circG,Fact.ptrG] at hF; simp only [z01,Act.put,zQ]; simp only [hF]
  go_wp2
  exact ⟨rfl,rfl,.inr (Below.refl _ _),.inr (.inl (by simp))⟩
 ·
  intro vals x hC hF; have hC:=hC.resolve_left (by simp); have hsz:=hC.size; simp only [z0c,zR,Fact.eq,Fact.row,Fact.lit,Fact.lit0,Fact.of,and_true,Fact.rowG,Fact.netG,Fact.mapG,Fact.circG,Fact.ptrG] at hF; simp only [z01,Act.put,zQ]; simp only [hF]
  go_wp2_with fail
  refine (clone_any A c n.gs x (H.up hC) hn hA).mono ?_; rintro e w9 ⟨A9,c9,rfl,ho9,hb9⟩
  go_wp2
  exact ⟨rfl,⟨A9,c9,rfl,own_mono ho9 hsz⟩,.inr hb9,.inr (.inl (by simp))⟩
 ·
  intro vals x hC hF; have hC:=hC.resolve_left (by simp); have hsz:=hC.size; simp only [z0c,zR,Fact.eq,Fact.row,Fact.lit,Fact.lit0,Fact.of,and_true,Fact.rowG,Fact.netG,Fact.mapG,Fact.circG,Fact.ptrG] at hF; obtain ⟨e26,A9,c9,e29,ho9⟩:=hF; simp only [z01,Act.put,zQ]; simp only [e26,e29]
  go_wp2
  exact ⟨rfl,⟨A9,c9,rfl,ho9⟩,.inr (Below.refl _ _),.inr (.inl (by simp))⟩
 ·
  intro vals x hC hF; have hC:=hC.resolve_left (by simp); have hsz:=hC.size; simp only [z01,Act.put,zQ]; have hmm:=@run_makeMap Tryz.prog
  go_wp2
  exact ⟨rfl,⟨_,rfl,hsz,_,World.ownsMap_made x _ _ _,Known.nil _⟩,.inr ((Below.refl _ _).alloc (Nat.le_refl _) _),.inr (.inl (by simp))⟩
 ·
  intro vals x hC hF; have hC:=hC.resolve_left (by simp); have hsz:=hC.size; simp only [z0c,zR,Fact.eq,Fact.row,Fact.lit,Fact.lit0,Fact.of,and_true,Fact.rowG,Fact.netG,Fact.mapG,Fact.circG,Fact.ptrG] at hF; obtain ⟨⟨A9,c9,e30,ho9⟩,b9,e31,hb9,hk9⟩:=hF; simp only [z01,Act.put,zQ]; simp only [e30,e31]
  go_wp2
  exact ⟨rfl,⟨A9,c9,b9,rfl,ho9,hb9,hk9⟩,.inr (Below.refl _ _),.inr (.inl (by simp))⟩
 ·
  intro vals x hC hF; have hC:=hC.resolve_left (by simp); have hsz:=hC.size; simp only [z0c,zR,Fact.eq,Fact.row,Fact.lit,Fact.lit0,Fact.of,and_true,Fact.rowG,Fact.netG,Fact.mapG,Fact.circG,Fact.ptrG] at hF; obtain ⟨A9,c9,b9,e32,ho9,hb9,hk9⟩:=hF; simp only [z01,Act.put,zQ]; simp only [e32]
  go_wp2
  have hal : Below x.heap.size x (x.alloc (.cells #[.int .i64 n.ins,.slice A9 n.gs.length c9,.map (some b9)] 106)):=(Below.refl _ _).alloc (Nat.le_refl _) _; exact ⟨rfl,⟨_,rfl,⟨A9,c9,b9,heap_alloc_new _ _,hsz,hb9,ho9.up hal,hk9.keep (hal.block b9 hk9.lt)⟩,z09 hC hal⟩,.inr hal,.inr (.inl (by simp))⟩
 ·
  intro vals x hC hF; have hC:=hC.resolve_left (by simp); have hsz:=hC.size; simp only [z0c,zR,Fact.eq,Fact.row,Fact.lit,Fact.lit0,Fact.of,and_true,Fact.rowG,Fact.netG,Fact.mapG,Fact.circG,Fact.ptrG] at hF; obtain ⟨r9,e33,hc9,hb9⟩:=hF; simp only [z01,Act.put,zQ]; simp only [e33]
  go_wp2
  exact ⟨rfl,⟨r9,rfl,hc9,hb9⟩,.inr (Below.refl _ _),.inr (.inl (by simp))⟩
 ·
  intro vals x hF; simp only [facts,zR,Fact.eq,Fact.row,Fact.lit,Fact.lit0,Fact.of,and_true,Fact.rowG,Fact.netG,Fact.mapG,Fact.circG,Fact.ptrG] at hF; obtain ⟨r,e9,hC,hB⟩:=hF; simp only [z01,Act.put,zQ]; simp only [e9]; clear e9; have z1:=(hB.cell (World.block_lt_of_cell? W1 _ v1)).trans v1
  go_wp2
  clear z1
  go_loopw [37] (fun i wr => ∃ k : Nat,k <= n.gs.length /\ i = .int .i64 k /\ Below W1.heap.size W1 wr /\ Circ W1.heap.size wr r n (n.gs.take k) /\ ∀ i',i' < k -> goodAt n i' = true) (fun i _ => n.gs.length - (intOf i).toNat)
  case atStart => exact ⟨0,Nat.zero_le _,rfl,hB,hC,fun i' h => absurd h (by omega)⟩
  case round =>
   obtain ⟨k,hk,rfl,hb,hCk,hg⟩:=hrel; have HG:=zH hg; clear hg hB hC d0 d1
   by_cases hlt : k < n.gs.length
   ·
    obtain ⟨ad,rfl,hf,g1,g2,g3⟩:=(H.up hb).at_gate hlt; have hgk : n.gs[k]? = some n.gs[k]:=List.getElem?_eq_getElem hlt; obtain ⟨⟨a0,a1⟩,b0,b1⟩:=hi n.gs[k] (List.getElem_mem _); generalize n.gs[k] = g at *; obtain ⟨gx,ga,gb⟩:=g; dsimp only at g1 g2 g3 a0 a1 b0 b1; have HGK:=zH hgk; obtain ⟨na,hna⟩ : ∃ na : Int,na = ga.natAbs:=⟨_,rfl⟩; obtain ⟨nb,hnb⟩ : ∃ nb : Int,nb = gb.natAbs:=⟨_,rfl⟩; have qa : ∀ W : World,-9223372036854775808 < ga -> Calls Tryz.prog 95 #[.int .i64 ga] W fun e w' => e = .returned (.int .i64 na) /\ W = w':=fun W h9 => by rw [hna]; exact node_any ga W h9 a1
    have qb : ∀ W : World,-9223372036854775808 < gb -> Calls Tryz.prog 95 #[.int .i64 gb] W fun e w' => e = .returned (.int .i64 nb) /\ W = w':=fun W h9 => by rw [hnb]; exact node_any gb W h9 b1
    have Qa:=zH qa; have Qb:=zH qb; have NA:=zH hna; have NB:=zH hnb; clear qa qb hgk hna hnb; have hk1 : (k : Int) < n.gs.length:=by omega
    have y0:=(hb.cell (World.block_lt_of_cell? W1 _ v0)).trans v0; have y1:=(hb.cell (World.block_lt_of_cell? W1 _ v1)).trans v1; have hS1 : w.heap.size < W1.heap.size:=World.block_lt_of_cell? W1 _ v0; have hS2 : W1.heap.size <= wr.heap.size:=hb.size; have hS3 : w.heap.size < wr.heap.size:=Nat.lt_of_lt_of_le hS1 hS2; have hal : Below wr.heap.size wr (wr.alloc (.cells #[.bool gx,.int .i64 ga,.int .i64 gb] 78)):=(Below.refl _ _).alloc (Nat.le_refl _) _; have hSg : (wr.alloc (.cells #[.bool gx,.int .i64 ga,.int .i64 gb] 78)).heap[wr.heap.size]? = some (.cells #[.bool gx,.int .i64 ga,.int .i64 gb] 78 (0,0)):=heap_alloc_new _ _; have hCal:=hCk.up hal; have t0 : (wr.alloc (.cells #[.bool gx,.int .i64 ga,.int .i64 gb] 78)).cell? ⟨w.heap.size,0,none⟩ = some (.int .i64 n.ins):=((bcell hal).1 _ _ hS3).trans y0; have t1 : (wr.alloc (.cells #[.bool gx,.int .i64 ga,.int .i64 gb] 78)).cell? ⟨w.heap.size,1,none⟩ = some (.slice (some ad) n.gs.length c):=((bcell hal).1 _ _ hS3).trans y1
    go_wp2
    go_quiet (fail)
    go_wp2_with fail
    have u0 : ((wr.alloc (.cells #[.bool gx,.int .i64 ga,.int .i64 gb] 78)).drewN nq).cell? ⟨w.heap.size,0,none⟩ = some (.int .i64 n.ins):=t0; have u1 : ((wr.alloc (.cells #[.bool gx,.int .i64 ga,.int .i64 gb] 78)).drewN nq).cell? ⟨w.heap.size,1,none⟩ = some (.slice (some ad) n.gs.length c):=t1; have u2 : ((wr.alloc (.cells #[.bool gx,.int .i64 ga,.int .i64 gb] 78)).drewN nq).heap[wr.heap.size]? = some (.cells #[.bool gx,.int .i64 ga,.int .i64 gb] 78 (0,0)):=hSg; have hC0 : Circ W1.heap.size ((wr.alloc (.cells #[.bool gx,.int .i64 ga,.int .i64 gb] 78)).drewN nq) r n (n.gs.take k):=hCal.up (z02 (Below.refl _ _) nq); have hB0 : Below W1.heap.size W1 ((wr.alloc (.cells #[.bool gx,.int .i64 ga,.int .i64 gb] 78)).drewN nq):=z02 (z09 hb hal) nq; have hlow0 : W1.heap.size <= ((wr.alloc (.cells #[.bool gx,.int .i64 ga,.int .i64 gb] 78)).drewN nq).heap.size:=hB0.size; generalize (wr.alloc (.cells #[.bool gx,.int .i64 ga,.int .i64 gb] 78)).drewN nq = W0 at *; clear t0 t1 hSg hCal hal y0 y1 g1 g2 g3 hCk v0 v1 hS2; have d0:=z0f.cell u0; have d1:=z0f.cell u1; have d2:=z0f.cell (show W0.cell? ⟨wr.heap.size,0,none⟩ = some (.bool gx) from (z00 u2 0).1); have d3:=z0f.cell (show W0.cell? ⟨wr.heap.size,1,none⟩ = some (.int .i64 ga) from (z00 u2 1).1); have d4:=z0f.cell (show W0.cell? ⟨wr.heap.size,2,none⟩ = some (.int .i64 gb) from (z00 u2 2).1); have U2:=zH u2; clear u0 u1 u2; refine (nodes_any (some ad) c n.gs.length n.ins k W0 (by omega) (by omega) (by omega) (by omega)).mono ?_; rintro e w2 ⟨rfl,hb2⟩; obtain ⟨x1,rfl⟩ : ∃ x : z0f W0,w2 = x.W:=⟨⟨w2,hb2⟩,rfl⟩; clear hb2
    go_wp2_with fail
    refine (of_any ga _ _ a0 a1 (by omega) (by omega)).mono ?_; rintro e w2 ⟨rfl,rfl⟩
    cases sa : z27 ga (1 + n.ins + k)
    ·
     have SA : Hid (z0q n = false):=zH (good_no_ok HGK.out hlt (by simp [z27] at sa; have:=NA.out; dsimp only; omega))
     go_wp2
     go_ret2
     exact read_no SA.out (z09 hw ((hB0.trans (x1.le.mono hlow0))))
    have hsa : ga ≠ 0 /\ -(1 + n.ins + k) <= ga /\ ga <= 1 + n.ins + k:=by simpa [z27] using sa
    obtain ⟨sa0,sa1,sa2⟩:=hsa; clear sa
    go_wp2_with fail
    refine (nodes_any (some ad) c n.gs.length n.ins k x1.W (by omega) (by omega) (by omega) (by omega)).mono ?_; rintro e w2 ⟨rfl,hb2⟩; obtain ⟨x2,rfl⟩ : ∃ x : z0f W0,w2 = x.W:=⟨⟨w2,z09 x1.le hb2⟩,rfl⟩; clear hb2
    go_wp2_with fail
    refine (of_any gb _ _ b0 b1 (by omega) (by omega)).mono ?_; rintro e w2 ⟨rfl,rfl⟩; have hB2:=hB0.trans (x2.le.mono hlow0)
    cases sb : z27 gb (1 + n.ins + k)
    ·
     have SA : Hid (z0q n = false):=zH (good_no_ok HGK.out hlt (by simp [z27] at sb; have:=NA.out; have:=NB.out; dsimp only; omega))
     go_wp2
     go_ret2
     exact read_no SA.out (z09 hw hB2)
    have hsb : gb ≠ 0 /\ -(1 + n.ins + k) <= gb /\ gb <= 1 + n.ins + k:=by simpa [z27] using sb
    obtain ⟨sb0,sb1,sb2⟩:=hsb; clear sb
    go_wp2_with fail
    refine (Qa.out _ (by omega)).mono ?_; rintro e w2 ⟨rfl,rfl⟩
    by_cases p1 : na = 1
    ·
     have hp1 : (na == 1) = true:=by simp [p1]
     have SA : Hid (z0q n = false):=zH (good_no_ok HGK.out hlt (by have:=NA.out; dsimp only; omega)); clear p1
     go_wp2
     go_ret2
     exact read_no SA.out (z09 hw hB2)
    have hp1 : (na == 1) = false:=by simp [p1]
    have hp2 : 2 <= na:=by have:=NA.out; omega
    clear p1
    go_wp2_with fail
    refine (Qb.out _ (by omega)).mono ?_; rintro e w2 ⟨rfl,rfl⟩
    by_cases p3 : nb = 1
    ·
     have hp3 : (nb == 1) = true:=by simp [p3]
     have SA : Hid (z0q n = false):=zH (good_no_ok HGK.out hlt (by have:=NA.out; have:=NB.out; dsimp only; omega)); clear p3
     go_wp2
     go_ret2
     exact read_no SA.out (z09 hw hB2)
    have hp3 : (nb == 1) = false:=by simp [p3]
    clear p3
    go_wp2_with fail
    refine (Qa.out _ (by omega)).mono ?_; rintro e w2 ⟨rfl,rfl⟩
    go_wp2_with fail
    refine (Qb.out _ (by omega)).mono ?_; rintro e w2 ⟨rfl,rfl⟩
    by_cases p5 : nb <= na
    ·
     have SA : Hid (z0q n = false):=zH (good_no_ok HGK.out hlt (by have:=NA.out; have:=NB.out; dsimp only; omega))
     go_wp2
     go_ret2
     exact read_no SA.out (z09 hw hB2)
    clear hp1 hp3; have hC2:=hC0.up x2.le; obtain ⟨A2,c2,b2,hr2,hrlo,hblo,hown2,hkn2⟩:=hC2; have z2 : x2.W.cell? ⟨r,2,none⟩ = some (.map (some b2)):=(z00 hr2 2).1; have hokg : okGi (⟨gx,ga,gb⟩ : G):=⟨⟨a0,a1⟩,b0,b1⟩; obtain ⟨cc,_,hlook⟩:=hkn2.look (⟨gx,ga,gb⟩ : G) hokg true; have hl : ∀ m,(Instr.lookup 104 (.map (some b2)) (.agg #[.bool gx,.int .i64 ga,.int .i64 gb]) true).run Tryz.prog (x2.W.drewN m) = .ok (.tuple #[.int .i64 cc,.bool (decide ((⟨gx,ga,gb⟩ : G) ∈ n.gs.take k))]) (x2.W.drewN m):=fun m => hlook (x2.W.drewN m) rfl
    have HR2:=zH hr2; clear hlook hr2; have hlow2 : W1.heap.size <= x2.W.heap.size:=hB2.size
    by_cases hm : (⟨gx,ga,gb⟩ : G) ∈ n.gs.take k
    ·
     have SA : Hid (z0q n = false):=zH (good_no_mem HGK.out hlt hm); rw [decide_eq_true hm] at hl; clear hm
     go_wp2
     go_quiet (fail)
     clear hl
     go_wp2
     go_ret2
     exact read_no SA.out (z02 (z09 hw hB2) _)
    rw [decide_eq_false hm] at hl; have HM:=zH hm; clear hm
    by_cases hx : gx = true /\ (ga < 0 \/ gb < 0)
    ·
     have SA : Hid (z0q n = false):=zH (good_no_x HGK.out hlt hx); obtain ⟨hx1,hx2⟩:=hx; subst hx1
     by_cases hx3 : ga < 0
     all_goals
      go_wp2
      go_quiet (fail)
      clear hl
      go_wp2
      go_ret2
      exact read_no SA.out (z02 (z09 hw hB2) _)
    have hgood:=good_yes HGK.out sa1 sa2 sb1 sb2 (by have:=NA.out; dsimp only; omega) (by have:=NA.out; have:=NB.out; dsimp only; omega) hx HM.out; have HGD:=zH hgood; have hxx : gx = false \/ (gx = true /\ 0 <= ga /\ 0 <= gb):=by
     cases gx
     · exact .inl rfl
     ·
      have hx' : ¬ (ga < 0 \/ gb < 0):=fun h9 => hx ⟨rfl,h9⟩
      exact .inr ⟨rfl,by omega,by omega⟩
    clear hx hgood; have e1 : IntKind.i64.wrap (1 + n.ins + (k : Int) + 1) = 1 + n.ins + (k : Int) + 1:=IntWalk.i64_in _ (by omega); have E1:=zH e1; clear e1
    rcases hxx with rfl | ⟨rfl,hx1,hx2⟩
    ·
     go_wp2
     go_quiet (fail)
     clear hl
     go_wp2
     clear p5; have q0 : (x2.W.drewN nq).cell? ⟨w.heap.size,0,none⟩ = some (.int .i64 n.ins):=d0 x2; have q1 : (x2.W.drewN nq).cell? ⟨w.heap.size,1,none⟩ = some (.slice (some ad) n.gs.length c):=d1 x2; have q2:=d2 x2
     change (x2.W.drewN nq).cell? _ = _ at q2
     have q3 : (x2.W.drewN nq).cell? ⟨wr.heap.size,1,none⟩ = some (.int .i64 ga):=d3 x2; have q4 : (x2.W.drewN nq).cell? ⟨wr.heap.size,2,none⟩ = some (.int .i64 gb):=d4 x2; have q5 : (x2.W.drewN nq).cell? ⟨r,2,none⟩ = some (.map (some b2)):=z2; have hC3 : Circ W1.heap.size (x2.W.drewN nq) r n (n.gs.take k):=Circ.up ⟨A2,c2,b2,HR2.out,hrlo,hblo,hown2,hkn2⟩ (z02 (Below.refl _ _) nq); have hB3 : Below W1.heap.size W1 (x2.W.drewN nq):=z02 hB2 nq; have hr3 : (x2.W.drewN nq).heap[r]? = some (.cells #[.int .i64 n.ins,.slice A2 n.gs.length c2,.map (some b2)] 106 (0,0)):=HR2.out; have hown3 : z0x (x2.W.drewN nq) W1.heap.size (.slice A2 n.gs.length c2) n.gs:=hown2; have hkn3 : z25 (x2.W.drewN nq) b2 n.ins (n.gs.take k):=hkn2; have hlow3 : W1.heap.size <= (x2.W.drewN nq).heap.size:=hlow2; clear d0 d1 d2 d3 d4 z2 hown2 hkn2 hlow2 hB2 hB0 hC0 hlow0; generalize x2.W.drewN nq = W6 at *; have q0:=z0f.cell q0; have q1:=z0f.cell q1; have q2:=z0f.cell q2; have q3:=z0f.cell q3; have q4:=z0f.cell q4; have q5:=z0f.cell q5; have HR3:=zH hr3; have e1:=E1.out; clear hr3; refine z1l 9 (by kernel_rfl) (by kernel_rfl) ?_; simp only [List.take_succ_cons,List.take_zero,List.drop_succ_cons,List.drop_zero]
     repeat (go_big_quiet_step ((go_at_call 101; with_reducible exact z2a (nodes_any (some ad) c n.gs.length n.ins k _ (by omega) (by omega) (by omega) (by omega)))))
     refine wpQuiet_nil ?_; rintro _ ⟨x9,rfl⟩; clear e1; have hB9:=hB3.trans (x9.le.mono hlow3); have hr9:=(x9.le.block r (lt_of_block HR3.out)).trans HR3.out; have hown9 : z0x x9.W W1.heap.size (.slice A2 n.gs.length c2) n.gs:=z0e hown3 x9.le (Nat.le_refl _); obtain ⟨D,hmap9,hD⟩:=hkn3.keep (x9.le.block b2 hkn3.lt); have hlen : (n.gs.take k).length = k:=by simp; omega
     rw [hlen] at hmap9; have hkm : k < maxLen:=by unfold maxLen; omega
     go_wp2_with (at_mapUpdate; refine wpList_mapUpdate_own _ rfl _ _ _ 104 rfl 78 3 z1s Tryz.underlying104 _ b2 k D rfl hmap9 hkm _ _ (keyG ⟨false,ga,gb⟩) rfl rfl (keyG_ok ⟨false,ga,gb⟩ hokg) (.lit (.int .i64 (1 + n.ins + k + 1))) [] (plainElem_int Tryz.underlying3 (WalkArith.wf_i64 (by omega))) ?_; intro w5 hown5 hgrow5)
     have hD5:=hD.put ⟨false,ga,gb⟩ hokg HM.out (1 + n.ins + k + 1) (by rw [hlen]; omega); have htk : n.gs.take k ++ [⟨false,ga,gb⟩] = n.gs.take (k + 1):=by rw [List.take_add_one,HGK.out]; rfl
     rw [htk] at hD5; have hneb9 : some r ≠ some b2:=by
      intro e; injection e with e; subst e; obtain ⟨es,clock,hbb,_⟩:=hmap9; rw [hr9] at hbb; cases hbb
     have hr5:=(hgrow5.block r (lt_of_block hr9) hneb9).trans hr9; have hownm : z0x w5 W1.heap.size (.slice A2 n.gs.length c2) n.gs:=hown9.kept hgrow5 (by
      obtain ⟨es,clock,hbb,_⟩:=hmap9; exact .inr (fun e => row_ne hown9 b2 _ hbb (fun cs fr e => by cases e) e.symm))
     have hB5:=hB9.grown hgrow5 (Nat.le_trans hlow3 x9.le.size) (fun k' hk' => by injection hk' with hk'; rw [<- hk']; exact hblo); have hC5 : Circ W1.heap.size w5 r n (n.gs.take (k + 1)):=⟨A2,c2,b2,hr5,hrlo,hblo,hownm,_,hown5.mono (by simp; omega),hD5⟩; clear hr5 hr9 hmap9 hown5 hownm htk hneb9 hlen hgrow5
     go_wp2
     go_roundw
     case rel => exact ⟨k + 1,by omega,by go_num,hB5,hC5,fun i' hi' => by
      rcases Nat.lt_or_ge i' k with h' | h'
      · exact HG.out i' h'
      ·
       have : i' = k:=by omega
       subst this; exact HGD.out⟩
     case measure => simp [intOf]; omega
    ·
     go_wp2
     go_quiet (fail)
     clear hl
     go_wp2
     clear p5; have q0 : (x2.W.drewN nq).cell? ⟨w.heap.size,0,none⟩ = some (.int .i64 n.ins):=d0 x2; have q1 : (x2.W.drewN nq).cell? ⟨w.heap.size,1,none⟩ = some (.slice (some ad) n.gs.length c):=d1 x2; have q2:=d2 x2
     change (x2.W.drewN nq).cell? _ = _ at q2
     have q3 : (x2.W.drewN nq).cell? ⟨wr.heap.size,1,none⟩ = some (.int .i64 ga):=d3 x2; have q4 : (x2.W.drewN nq).cell? ⟨wr.heap.size,2,none⟩ = some (.int .i64 gb):=d4 x2; have q5 : (x2.W.drewN nq).cell? ⟨r,2,none⟩ = some (.map (some b2)):=z2; have hC3 : Circ W1.heap.size (x2.W.drewN nq) r n (n.gs.take k):=Circ.up ⟨A2,c2,b2,HR2.out,hrlo,hblo,hown2,hkn2⟩ (z02 (Below.refl _ _) nq); have hB3 : Below W1.heap.size W1 (x2.W.drewN nq):=z02 hB2 nq; have hr3 : (x2.W.drewN nq).heap[r]? = some (.cells #[.int .i64 n.ins,.slice A2 n.gs.length c2,.map (some b2)] 106 (0,0)):=HR2.out; have hown3 : z0x (x2.W.drewN nq) W1.heap.size (.slice A2 n.gs.length c2) n.gs:=hown2; have hkn3 : z25 (x2.W.drewN nq) b2 n.ins (n.gs.take k):=hkn2; have hlow3 : W1.heap.size <= (x2.W.drewN nq).heap.size:=hlow2; clear d0 d1 d2 d3 d4 z2 hown2 hkn2 hlow2 hB2 hB0 hC0 hlow0; generalize x2.W.drewN nq = W6 at *; have q0:=z0f.cell q0; have q1:=z0f.cell q1; have q2:=z0f.cell q2; have q3:=z0f.cell q3; have q4:=z0f.cell q4; have q5:=z0f.cell q5; have HR3:=zH hr3; have e1:=E1.out; clear hr3; refine z1l 9 (by kernel_rfl) (by kernel_rfl) ?_; simp only [List.take_succ_cons,List.take_zero,List.drop_succ_cons,List.drop_zero]
     repeat (go_big_quiet_step ((go_at_call 101; with_reducible exact z2a (nodes_any (some ad) c n.gs.length n.ins k _ (by omega) (by omega) (by omega) (by omega)))))
     refine wpQuiet_nil ?_; rintro _ ⟨x9,rfl⟩; clear e1; have hB9:=hB3.trans (x9.le.mono hlow3); have hr9:=(x9.le.block r (lt_of_block HR3.out)).trans HR3.out; have hown9 : z0x x9.W W1.heap.size (.slice A2 n.gs.length c2) n.gs:=z0e hown3 x9.le (Nat.le_refl _); obtain ⟨D,hmap9,hD⟩:=hkn3.keep (x9.le.block b2 hkn3.lt); have hlen : (n.gs.take k).length = k:=by simp; omega
     rw [hlen] at hmap9; have hkm : k < maxLen:=by unfold maxLen; omega
     go_wp2_with (at_mapUpdate; refine wpList_mapUpdate_own _ rfl _ _ _ 104 rfl 78 3 z1s Tryz.underlying104 _ b2 k D rfl hmap9 hkm _ _ (keyG ⟨true,ga,gb⟩) rfl rfl (keyG_ok ⟨true,ga,gb⟩ hokg) (.lit (.int .i64 (1 + n.ins + k + 1))) [] (plainElem_int Tryz.underlying3 (WalkArith.wf_i64 (by omega))) ?_; intro w5 hown5 hgrow5)
     have hD5:=hD.put ⟨true,ga,gb⟩ hokg HM.out (1 + n.ins + k + 1) (by rw [hlen]; omega); have htk : n.gs.take k ++ [⟨true,ga,gb⟩] = n.gs.take (k + 1):=by rw [List.take_add_one,HGK.out]; rfl
     rw [htk] at hD5; have hneb9 : some r ≠ some b2:=by
      intro e; injection e with e; subst e; obtain ⟨es,clock,hbb,_⟩:=hmap9; rw [hr9] at hbb; cases hbb
     have hr5:=(hgrow5.block r (lt_of_block hr9) hneb9).trans hr9; have hownm : z0x w5 W1.heap.size (.slice A2 n.gs.length c2) n.gs:=hown9.kept hgrow5 (by
      obtain ⟨es,clock,hbb,_⟩:=hmap9; exact .inr (fun e => row_ne hown9 b2 _ hbb (fun cs fr e => by cases e) e.symm))
     have hB5:=hB9.grown hgrow5 (Nat.le_trans hlow3 x9.le.size) (fun k' hk' => by injection hk' with hk'; rw [<- hk']; exact hblo); have hC5 : Circ W1.heap.size w5 r n (n.gs.take (k + 1)):=⟨A2,c2,b2,hr5,hrlo,hblo,hownm,_,hown5.mono (by simp; omega),hD5⟩; clear hr5 hr9 hmap9 hown5 hownm htk hneb9 hlen hgrow5
     go_wp2
     go_roundw
     case rel => exact ⟨k + 1,by omega,by go_num,hB5,hC5,fun i' hi' => by
      rcases Nat.lt_or_ge i' k with h' | h'
      · exact HG.out i' h'
      ·
       have : i' = k:=by omega
       subst this; exact HGD.out⟩
     case measure => simp [intOf]; omega
   ·
    have hke : k = n.gs.length:=by omega
    subst hke; have HN:=zH ((netOk_iff n).2 ⟨by omega,by omega,by omega,HG.out⟩); rw [List.take_length] at hCk
    go_wp2
    go_ret2
    exact ⟨z09 hw hb,.inl ⟨HN.out,r,rfl,by obtain ⟨A2,c2,b2,k1,k2,k3,k4,k5⟩:=hCk; exact ⟨A2,c2,b2,k1,by omega,by omega,own_mono k4 hlo1,k5⟩⟩⟩
end Go.Proofs.YtemdmlmcidfodaaGreatDoor
namespace Go.Proofs.YtemdmlmcidfodaaGreatDoor
open Go Go.RowKit
end Go.Proofs.YtemdmlmcidfodaaGreatDoor
namespace Go.Proofs.YtemdmlmcidfodaaGreatDoor
open Go Go.RowKit Go.Maps
theorem circ_cells {lo : Nat} {w : World} {r : Nat} {n : N} {ks : List G} (h : Circ lo w r n ks) : ∃ A c,w.cell? ⟨r,0,none⟩ = some (.int .i64 n.ins) /\ w.cell? ⟨r,1,none⟩ = some (.slice A n.gs.length c) /\ z0x w lo (.slice A n.gs.length c) n.gs:=by
 obtain ⟨A,c,b,hr,_,_,ho,_⟩:=h; exact ⟨A,c,(z00 hr 0).1,(z00 hr 1).1,ho⟩
end Go.Proofs.YtemdmlmcidfodaaGreatDoor
namespace Go.Proofs.YtemdmlmcidfodaaGreatDoor
open Go Go.RowKit Go.ChangeShapes Go.WideShapes Go.Deep
theorem z1w.gate {P : Program} {t ti tb : TypeId} {fs : Array Field} (ht : P.underlying t = some (.struct fs)) (hc : P.cellsOf t = 3) (hti : P.underlying ti = some (.int .i64)) (htic : P.cellsOf ti = 1) (htb : P.underlying tb = some .bool) (htbc : P.cellsOf tb = 1)
  (hf : fs.toList.map (fun f : Field => (f.type,f.offset)) = [(tb,0),(ti,1),(ti,2)]) : z1w P t Lay.gate okGi:=by
 have hfi : ∀ i,(fs[i]?).map (fun f : Field => (f.type,f.offset)) = [(tb,0),(ti,1),(ti,2)][i]?:=fun i => by
  rw [<- hf,List.getElem?_map,Array.getElem?_toList]
 intro H enc w base spare held fuel cs x h; obtain ⟨b,okb,rb⟩:=z1p.field ht h (Nat.le_succ _) 0 tb 0 1 (hfi 0) htbc ((z1w.bool htb).at _); obtain ⟨a,oka,ra⟩:=z1p.field ht h (Nat.le_succ _) 1 ti 1 1 (hfi 1) htic ((z1w.int hti).at _); obtain ⟨a2,oka2,ra2⟩:=z1p.field ht h (Nat.le_succ _) 2 ti 2 1 (hfi 2) htic ((z1w.int hti).at _); have hlen:=trod_cells ht h; rw [hc] at hlen
 match cs,hlen with
 | [x0,x1,x2],_ =>
  simp [Lay.int,Lay.bool,Lay.flat] at rb ra ra2; subst rb ra ra2; exact ⟨⟨b,a,a2⟩,⟨oka,oka2⟩,rfl⟩
def Lay.net : Lay N where
 size:=2
 R w F x vs:=∃ A c,vs = [.int .i64 x.ins,.slice A x.gs.length c] /\ x.gs.length <= c /\ Lay.gate.Sl w F A x.gs /\ (A = none -> x.gs.length = 0)
 len:=by rintro w F x vs ⟨A,c,rfl,_⟩; rfl
 keep:=by rintro w w' F x vs hk ⟨A,c,rfl,h1,h2,h3⟩; exact ⟨A,c,rfl,h1,h2.keep hk,h3⟩
 mono:=by rintro w F G x vs hk ⟨A,c,rfl,h1,h2,h3⟩; exact ⟨A,c,rfl,h1,h2.mono hk,h3⟩
def okNetIn (n : N) : Prop:=z15 n.ins /\ n.gs.length <= maxLen /\ ∀ g ∈ n.gs,okGi g
theorem sl_nonnil {α : Type} {L : Lay α} {w : World} {F : Nat -> Prop} {A : Option Addr} {xs : List α} (h : L.Sl w F A xs) : A = none -> xs.length = 0:=fun e => by
 rcases Nat.eq_zero_or_pos xs.length with h0 | h0
 · exact h0
 ·
  obtain ⟨ad,e',_⟩:=h h0; rw [e] at e'; cases e'
theorem z1w.net {P : Program} {t ti sg : TypeId} {fs : Array Field} (ht : P.underlying t = some (.struct fs)) (hc : P.cellsOf t = 2) (hti : P.underlying ti = some (.int .i64)) (htic : P.cellsOf ti = 1) (hsg : P.cellsOf sg = 1)
  (hf : fs.toList.map (fun f : Field => (f.type,f.offset)) = [(ti,0),(sg,1)]) (hg : z1w P sg Lay.gate.slice (fun xs => xs.length <= maxLen /\ ∀ x ∈ xs,okGi x)) : z1w P t Lay.net okNetIn:=by
 have hfi : ∀ i,(fs[i]?).map (fun f : Field => (f.type,f.offset)) = [(ti,0),(sg,1)][i]?:=fun i => by
  rw [<- hf,List.getElem?_map,Array.getElem?_toList]
 intro H enc w base spare held fuel cs x h; obtain ⟨a,oka,ra⟩:=z1p.field ht h (Nat.le_succ _) 0 ti 0 1 (hfi 0) htic ((z1w.int hti).at _); obtain ⟨gs,okg,A,c,r1,l1,s1⟩:=z1p.field ht h (Nat.le_succ _) 1 sg 1 1 (hfi 1) hsg (hg.at _); have hlen:=trod_cells ht h; rw [hc] at hlen
 match cs,hlen with
 | [x0,x1],_ =>
  simp [Lay.int,Lay.flat] at ra r1; subst ra r1; exact ⟨⟨a,gs⟩,⟨oka,okg⟩,A,c,rfl,l1,s1,sl_nonnil s1⟩
theorem own_rd {w : World} {lo : Nat} {A : Option Addr} {c : Nat} {xs : List G} (h : z0x w lo (.slice A xs.length c) xs) : Lay.gate.Rd w A xs:=h.sl.2.rd
end Go.Proofs.YtemdmlmcidfodaaGreatDoor
namespace Go.Proofs.YtemdmlmcidfodaaGreatDoor
open Go Go.RowKit Go.ChangeShapes Go.WideShapes Go.ChangeAt Go.Deep
def smNet (n : N) : Prop:=n.gs.length <= 1048576 /\ okInts n /\ z15 n.ins
theorem z0x.own {w : World} {base c : Nat} {A : Option Addr} {xs : List G} (h : z0x w base (.slice A xs.length c) xs) : Lay.gate.Sl w (Own base w) A xs:=fun hn => by
 obtain ⟨A',c',e,_,hs⟩:=h.form
 injection e with e1 e2 e3
 subst e1; obtain ⟨ad,e,hf,hc⟩:=hs hn; refine ⟨ad,e,⟨hf.1,hf.2,fun o => ?_⟩,hc⟩; subst e
 rcases h.2 with ⟨e,_⟩ | ⟨g,cap,cur,e,_,hg,_⟩
 · cases e
 ·
  injection e with e1 e2 e3
  injection e1 with e1
  subst e1; unfold World.frozen?; rw [hg]; simp
end Go.Proofs.YtemdmlmcidfodaaGreatDoor
