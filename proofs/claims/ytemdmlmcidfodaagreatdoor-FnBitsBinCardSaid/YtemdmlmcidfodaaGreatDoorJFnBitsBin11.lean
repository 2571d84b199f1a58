/- append of one integer onto a row of the call's own, and where the row lies then. -/
import Derived.Test.YtemdmlmcidfodaaGreatDoorJFnBitsBin0
import Derived.Test.YtemdmlmcidfodaaGreatDoorJFnBitsBin1
import Derived.Test.YtemdmlmcidfodaaGreatDoorJFnBitsBin2
import Derived.Test.YtemdmlmcidfodaaGreatDoorJFnBitsBin3
import Derived.Test.YtemdmlmcidfodaaGreatDoorJFnBitsBin4
import Derived.Test.YtemdmlmcidfodaaGreatDoorJFnBitsBin7
import Derived.Test.YtemdmlmcidfodaaGreatDoorJFnBitsBin8
import Derived.Test.YtemdmlmcidfodaaGreatDoorJFnBitsBin10
namespace Go.Proofs.YtemdmlmcidfodaaGreatDoor
open Go Go.RowKit
theorem kd_of {lo : Nat} {w w' : World} (h : BelB lo w w') {b : Nat} {cs : Array Value} {t : TypeId} {fr : Nat × Nat} (hb : w.heap[b]? = some (.cells cs t fr)) (h1 : t ≠ 106) (h2 : t ≠ 78) (h3 : t ≠ 73) : w'.heap[b]? = some (.cells cs t fr) :=
 h.kd b _ hb (nck_of h1 h2 h3).1 (nck_of h1 h2 h3).2
theorem Bx.bd {a0 a1 : Addr} {lo : Nat} {w w' : World} {q r : Nat} {s : BS} {e : Option Nat} (h : Bd a0 a1 lo w q r s) (hx : Bx a0 a1 lo w' q r e) (hk : CKs w w') (he : e = none -> s.e = none) : Bd a0 a1 lo w' q r ⟨s.n,e⟩ :=
 ⟨hx,h.nb,fun h0 => (h.circ (he h0)).keep hk⟩
theorem Bx.up {a0 a1 : Addr} {lo : Nat} {w w' : World} {q r : Nat} {e : Option Nat} (h : Bx a0 a1 lo w q r e) (hb : Below w.heap.size w w') : Bx a0 a1 lo w' q r e :=
 ⟨h.g.below (hb.mono (Nat.le_trans h.low (Nat.le_of_lt (lt_of_block h.box)))),(hb.block q (lt_of_block h.box)).trans h.box,h.low⟩
theorem Bx.upS {a0 a1 : Addr} {lo : Nat} {w w' : World} {q r : Nat} {e : Option Nat} (h : Bx a0 a1 lo w q r e) (hb : BelS lo w w') : Bx a0 a1 lo w' q r e :=
 ⟨h.g.below hb.bel,hb.bk q _ h.box ⟨_,_,rfl⟩,h.low⟩
theorem Bx.size {a0 a1 : Addr} {lo : Nat} {w : World} {q r : Nat} {e : Option Nat} (h : Bx a0 a1 lo w q r e) : lo <= w.heap.size:=Nat.le_trans h.low (Nat.le_of_lt (lt_of_block h.box))
theorem failE_none {e : Option Nat} {b : Bool} {k : Nat} (h : z1g e b k = none) : e = none /\ b = false:=by
 unfold z1g at h
 split at h
 · cases h
 ·
  rename_i h1
  refine ⟨h,?_⟩
  cases b
  · rfl
  · exact absurd ⟨rfl,h⟩ h1
theorem wpList_append_int9 {Q : Exit -> Act -> World -> Prop} {ops : Array Oper} {rest : List Oper} {o : Oper} {a : Act} {W : World} {lo : Nat} {A : Option Addr} {c : Nat} {xs ys : List Int} {x : Int} {e' : TypeId} (hgd : o.guard = none) (s y : Operand)
  (ho : o.op = .call { callee:=.builtin .append,args:=#[s,y],argTypes:=#[34,34] }) (hs : a.eval s = .slice A xs.length c) (hy : a.eval y = .slice (some ⟨W.heap.size,0,none⟩) 1 1)
  (hown : OwnI W lo (.slice A xs.length c) xs) (hn : xs.length <= 3000000) (hlo : lo <= W.heap.size) (hys : ys = xs ++ [x])
  (h : ∀ A' c' w',OwnI w' lo (.slice A' ys.length c') ys -> Below lo W w' -> wpList Tryz.prog ops Q rest (a.put o.dst (.slice A' ys.length c')) w') :
  wpList Tryz.prog ops Q (o :: rest) a (W.alloc (.cells #[.int .i64 x] e')):=by
 obtain ⟨i0,hi0,hz0,hz1,hz2⟩:=info_parts int_info; have hl : ys.length = xs.length + 1:=by rw [hys]; simp
 have hm : ys.map (Value.int .i64) = xs.map (Value.int .i64) ++ [.int .i64 x]:=by rw [hys]; simp
 refine wpList_append1 (P:=Tryz.prog) hgd s y 34 ho lo 3 i0 _ 8 Tryz.underlying34 hi0 hz0 hz1 hz2 (by rfl) _ xs.length (xs.map (Value.int .i64)) (.int .i64 x) e' hs hown hy (by rfl) (by unfold maxLen; omega) (by omega) hlo ?_; intro v' w' ho' hb; rw [<- hl,<- hm] at ho'; obtain ⟨A',c',rfl,_⟩:=OwnI.form (xs:=ys) ho'; exact h A' c' w' ho' hb
set_option maxRecDepth 100000 in
set_option maxHeartbeats 1000000 in
theorem numbers_any (A : Option Addr) (c : Nat) (xs : List Int) (w : World) (h : Lay.int.Rd w A xs) (hn : xs.length <= 1048576) :
  Calls Tryz.prog 72 #[.slice A xs.length c] w (CopyI xs w):=by
 have H:=zH h; clear h
 go_enter Tryz.func72,Tryz.ntmps72
 go_wp2
 go_loopw [3,8] (fun out i wr => ∃ (k : Nat) (l : List Int) (A1 : Option Addr) (c1 : Nat),k <= xs.length /\ i = .int .i64 k /\ out = .slice A1 l.length c1 /\ l = xs.take k /\ OwnI wr w.heap.size (.slice A1 l.length c1) l /\ Below w.heap.size w wr) (fun _ i _ => xs.length - (intOf i).toNat)
 case atStart => exact ⟨0,[],none,0,Nat.zero_le _,rfl,rfl,rfl,World.ownsRow_nil _ _ _ _,Below.refl _ _⟩
 case round =>
  obtain ⟨k,l,A1,c1,hk,rfl,rfl,hlt0,hown,hb⟩:=hrel; have HL:=zH hlt0; have hll : l.length <= 1048576:=by rw [hlt0]; simp; omega
  have hsz:=hb.size; have HB:=zH hb; clear hlt0 hb
  by_cases hlt : k < xs.length
  ·
   have hlt2 : (k : Int) < xs.length:=by omega
   obtain ⟨ad,hA,-,c9⟩:=(H.out.up HB.out).at_int hlt; obtain ⟨x,hx⟩ : ∃ x,x = xs[k]:=⟨_,rfl⟩; rw [<- hx] at c9; subst hA; obtain ⟨l2,hl2⟩ : ∃ l2,l2 = l ++ [x]:=⟨_,rfl⟩; have HL2:=zH hl2; have HX:=zH hx; clear hl2 hx
   go_wp2_with (at_builtin; refine wpList_append_int9 (ys:=l2) (by rfl) (.tmp 12) (.tmp 14) (by rfl) (by rfl) (by rfl) hown (by omega) hsz HL2.out ?_; intro A2 c2 w2 hown2 hb2)
   go_roundw
   case rel => exact ⟨k + 1,l2,A2,c2,by omega,by go_num,rfl,by rw [HL2.out,HL.out,HX.out]; simp,hown2,HB.out.trans hb2⟩
   case measure => simp [intOf]; omega
  ·
   have hke : k = xs.length:=by omega
   subst hke; have hlt2 : ¬ ((xs.length : Nat) : Int) < xs.length:=by omega
   go_wp2
   go_ret
   have hl9 : l = xs:=by rw [HL.out]; exact List.take_length
   subst hl9; exact ⟨A1,c1,rfl,hown.cap,hown.own,HB.out⟩
def z1m (n : N) (a : List Int) : Bool:=decide (1 <= a.length) && decide (a.length <= 4) && a.all (z07 n)
def listE (n : N) (e : Option Nat) (a : List Int) : Option Nat:=z1g e (!z1m n a) 0
theorem failE_twice (e : Option Nat) (a b : Bool) : z1g (z1g e a 0) b 0 = z1g e (a || b) 0:=by
 unfold z1g
 cases a <;> cases b <;> rcases e with _ | e <;> simp
def ListI (a0 a1 : Addr) (lo : Nat) (W : World) (q r : Nat) (n : N) (e e' : Option Nat) (base : Nat) (A : Option Addr) (c : Nat) (l : List Int) (done : Bool) (x : World) : Prop :=
 BelB lo W x /\ Bx a0 a1 lo x q r (if done = true then e' else e) /\ Circ lo x r n n.gs /\ z0u x base (.slice A l.length c) l
theorem ListI.up {a0 a1 : Addr} {lo : Nat} {W : World} {q r : Nat} {n : N} {e e' : Option Nat} {base : Nat} {A : Option Addr} {c : Nat} {l : List Int} {done : Bool} {x x' : World} (h : ListI a0 a1 lo W q r n e e' base A c l done x) (hb : Below x.heap.size x x') : ListI a0 a1 lo W q r n e e' base A c l done x' :=
 ⟨h.1.trans (.of hb h.2.1.size),h.2.1.up hb,h.2.2.1.up hb,z0e h.2.2.2 hb (Nat.le_refl _)⟩
def RetLs (a0 a1 : Addr) (lo : Nat) (w : World) (q r : Nat) (n : N) (e' : Option Nat) (l : List Int) (e : Ending) (w' : World) : Prop :=
 ∃ A c,e = .returned (.slice A l.length c) /\ l.length <= c /\ Lay.int.Pl w' A l /\ BelB lo w w' /\ Bx a0 a1 lo w' q r e' /\ Circ lo w' r n n.gs
set_option maxRecDepth 100000 in
set_option maxHeartbeats 4000000 in
theorem list_any (a0 a1 : Addr) (lo q r : Nat) (n : N) (e0 : Option Nat) (A : Option Addr) (ca : Nat) (xs : List Int) (w : World) (h : Bx a0 a1 lo w q r e0) (hc : Circ lo w r n n.gs) (hnb : NB n) (hX : Lay.int.Sl w (fun b => b < lo) A xs) (hxi : i64s xs) (hn : xs.length <= 1048576) :
  Calls Tryz.prog 35 #[.pointer (some ⟨q,0,none⟩),.slice A xs.length ca] w (RetLs a0 a1 lo w q r n (listE n e0 xs) xs):=by
 have HX:=zH hX; have HXI:=zH hxi; have HC:=zH hc; have HNB:=zH hnb; have hlo:=h.size; obtain ⟨b,hb⟩ : ∃ b,b = !(decide (1 <= xs.length) && decide (xs.length <= 4)):=⟨_,rfl⟩; have HF:=zH (fail_any a0 a1 lo q r e0 b 0 w h); have g0 : w.cell? ⟨1,0,none⟩ = some (errV a0 a1 (some 0)):=h.g.c0; have HR : Hid (listE n e0 xs = z1g (z1g e0 b 0) (!xs.all (z07 n)) 0):=zH (by
  unfold listE z1m; rw [failE_twice,hb]; congr 1; cases decide (1 <= xs.length) <;> cases decide (xs.length <= 4) <;> cases xs.all (z07 n) <;> rfl)
 have hcase : ((xs.length : Int) < 1 /\ b = true) \/ (¬ (xs.length : Int) < 1 /\ (4 : Int) < xs.length /\ b = true) \/ (¬ (xs.length : Int) < 1 /\ ¬ (4 : Int) < xs.length /\ b = false):=by
  by_cases h1 : (xs.length : Int) < 1
  · exact .inl ⟨h1,by rw [hb,decide_eq_false (by omega : ¬ 1 <= xs.length)]; rfl⟩
  ·
   by_cases h2 : (4 : Int) < xs.length
   · exact .inr (.inl ⟨h1,h2,by rw [hb,decide_eq_false (by omega : ¬ xs.length <= 4)]; simp⟩)
   · exact .inr (.inr ⟨h1,h2,by rw [hb,decide_eq_true (by omega : 1 <= xs.length),decide_eq_true (by omega : xs.length <= 4)]; rfl⟩)
 clear h hc hnb hX hxi hb; generalize hv : errV a0 a1 (some 0) = v at *; have HV:=zH hv; clear hv
 rcases hcase with ⟨hk1,rfl⟩ | ⟨hk1,hk2,rfl⟩ | ⟨hk1,hk2,rfl⟩
 all_goals
  go_enter Tryz.func35,Tryz.ntmps35
  go_wp2_with fail
  refine HF.out.mono ?_; rintro e w1 ⟨rfl,hb1,hx1,hck1⟩; have HB1:=zH hb1; have HX1:=zH hx1; have HC1:=zH (HC.out.keep hck1); have hs1:=hb1.bel.size; clear hb1 hx1 hck1 HF g0 hk1
  try clear hk2
  generalize z1g e0 _ 0 = e1 at *
  go_wp2
  go_loopw [5,21] (fun out i wr => ∃ (k : Nat) (l : List Int) (A1 : Option Addr) (c1 : Nat),k <= xs.length /\ i = .int .i64 k /\ out = .slice A1 l.length c1 /\ l = xs.take k /\ z0u wr w.heap.size (.slice A1 l.length c1) l /\ BelB lo w wr /\ Bx a0 a1 lo wr q r (z1g e1 (!l.all (z07 n)) 0) /\ Circ lo wr r n n.gs) (fun _ i _ => xs.length - (intOf i).toNat)
  case atStart => exact ⟨0,[],none,0,Nat.zero_le _,rfl,rfl,rfl,z0u.nil _ _,HB1.out,by rw [show z1g e1 (!([] : List Int).all (z07 n)) 0 = e1 from if_neg (by simp)]; exact HX1.out,HC1.out⟩
  case round =>
   obtain ⟨k,l,A1,c1,hk,rfl,rfl,hlt0,hown,hbb,hbx,hcc⟩:=hrel; have HL:=zH hlt0; have hll : l.length <= 1048576:=by rw [hlt0]; simp; omega
   have hsz:=hbb.bel.size; have HBB:=zH hbb; have HBX:=zH hbx; have HCC:=zH hcc; have HOWN:=zH hown; clear hlt0 hbb hbx hcc hown
   by_cases hlt : k < xs.length
   ·
    have hlt2 : (k : Int) < xs.length:=by omega
    obtain ⟨ad,hA,-,c9⟩:=(HX.out.below HBB.out.bel (fun _ h => h)).at_int hlt; obtain ⟨x,hx⟩ : ∃ x,x = xs[k]:=⟨_,rfl⟩; rw [<- hx] at c9; have hxi:=HXI.out x (by rw [hx]; exact List.getElem_mem hlt); subst hA; obtain ⟨l2,hl2⟩ : ∃ l2,l2 = l ++ [x]:=⟨_,rfl⟩; have HL2:=zH hl2; have HXX:=zH hx; have HE : Hid (z1g (z1g e1 (!l.all (z07 n)) 0) (!z07 n x) 0 = z1g e1 (!l2.all (z07 n)) 0):=zH (by
     rw [failE_twice,hl2,List.all_append]; congr 1; simp only [List.all_cons,List.all_nil,Bool.and_true]; cases l.all (z07 n) <;> cases z07 n x <;> rfl)
    clear hl2 hx; obtain ⟨hx0,hx1⟩:=hxi; generalize hmk : z07 n x = mk at *; have HMK:=zH hmk; clear hmk; generalize z1g e1 (!l.all (z07 n)) 0 = e2 at *; obtain ⟨e3,he3⟩ : ∃ e3,e3 = z1g e1 (!l2.all (z07 n)) 0:=⟨_,rfl⟩; rw [<- he3] at HE; have HE3:=zH he3; clear he3
    go_wp2
    refine z0a [[],[],[(1,26)],[(2,27)],[(3,28)],[],[(4,29),(5,30)],[(6,31)],[],[(0,25),(7,32),(8,33)]]
     (fun x9 y9 => Below x9.heap.size x9 y9)
     [(9,fun x9 y9 => BelB lo x9 y9)]
     (fun f9 x9 => ListI a0 a1 lo w q r n e2 e3 w.heap.size A1 c1 l (f9 9) x9)
     [zF 0 (.pointer (some ⟨q,0,none⟩)),
  zF 1 (.pointer (some ⟨q,0,none⟩)),
  zF 2 (.pointer (some ⟨q,0,none⟩)),
  zF 3 (.pointer (some ⟨q,0,none⟩)),
  zF 4 (.pointer (some ⟨r,0,none⟩)),
  zF 5 (.int .i64 x),
  zF 6 (.bool mk),
  zF 7 (.bool (!mk)),
  zF 8 v,
  fun _ _ => True]
     [(0,25),(1,26),(2,27),(3,28),(4,29),(5,30),(6,31),(7,32),(8,33),(9,34)] (by kernel_rfl) (by kernel_rfl) (by kernel_rfl) (by kernel_rfl)
     (fun _ => Below.refl _ _) ⟨fun _ => BelB.refl _ _,trivial⟩
     ⟨zU,
  zU,
  zU,
  zU,
  zU,
  zU,
  zU,
  zU,
  zU,
  ⟨.inr zK,⟨.inr (.inl rfl),trivial⟩⟩,trivial⟩ ⟨zL,
  zL,
  zL,
  zL,
  zL,
  zL,
  zL,
  zL,
  zL,
  fun _ _ _ _ _ _ => trivial,trivial⟩ (⟨HBB.out.trans (.of (z02 (Below.refl _ _) 1) HBX.out.size),by rw [if_neg (by simp)]; exact HBX.out.up (z02 (Below.refl _ _) 1),HCC.out.up (z02 (Below.refl _ _) 1),z0e HOWN.out (z02 (Below.refl _ _) 1) (Nat.le_refl _)⟩) ⟨?_,?_,?_,?_,?_,?_,?_,?_,?_,?_,trivial⟩ ?_
    iterate 2
     ·
      rintro vals xw f hf1 - - hI hF; dsimp only [z03,bare]; simp only [z01,Act.put,zQ]
      go_wp2
      exact zX hI rfl
    ·
     rintro vals xw f hf1 - - hI hF; simp only [z05,zF,zR,and_true] at hF; have e26:=hF; dsimp only [z03,bare]; simp only [z01,Act.put,zQ]; simp only [e26]
     go_wp2
     exact zX hI rfl
    ·
     rintro vals xw f hf1 - - hI hF; simp only [z05,zF,zR,and_true] at hF; have e27:=hF; dsimp only [z03,bare]; simp only [z01,Act.put,zQ]; simp only [e27]
     go_wp2
     exact zX hI rfl
    ·
     rintro vals xw f hf1 - - hI hF; simp only [z05,zF,zR,and_true] at hF; have e28:=hF; dsimp only [z03,bare]; simp only [z01,Act.put,zQ]; simp only [e28]; have c8:=(z00 hI.2.1.box 0).1
     go_wp2
     exact zX hI rfl
    ·
     rintro vals xw f hf1 - - hI hF; dsimp only [z03,bare]; simp only [z01,Act.put,zQ]
     go_wp2
     exact zX hI rfl
    ·
     rintro vals xw f hf1 - - hI hF; simp only [z05,zF,zR,and_true] at hF; obtain ⟨e29,e30⟩:=hF; dsimp only [z03,bare]; simp only [z01,Act.put,zQ]; simp only [e29,e30]; have HI:=zH hI; clear hI
     go_wp2_with fail
     refine (has_any lo r n n.gs x xw HI.out.2.2.1 HNB.out.2.2 HNB.out.1 HNB.out.2.1 hx0 hx1).mono ?_; rintro e wx ⟨rfl,hb9⟩; rw [HMK.out]; have HB9:=zH hb9; clear hb9
     go_wp2
     exact ⟨rfl,rfl,⟨zN rfl,fun _ => HB9.out⟩,HI.out.up HB9.out⟩
    ·
     rintro vals xw f hf1 - - hI hF; simp only [z05,zF,zR,and_true] at hF; have e31:=hF; dsimp only [z03,bare]; simp only [z01,Act.put,zQ]; simp only [e31]
     go_wp2
     exact zX hI rfl
    ·
     rintro vals xw f hf1 - - hI hF; dsimp only [z03,bare]; simp only [z01,Act.put,zQ]; have c8 : xw.cell? ⟨1,0,none⟩ = some v:=by rw [<- HV.out]; exact hI.2.1.g.c0
     go_wp2
     exact zX hI rfl
    ·
     rintro vals xw f hf1 - - hI hF; simp only [z05,zF,zR,and_true] at hF; obtain ⟨e25,e32,e33⟩:=hF; dsimp only [z03,bare]; simp only [z01,Act.put,zQ]; simp only [e25,e32,e33]; obtain ⟨i1,i2,i3,i4⟩:=hI; rw [hf1,if_neg (by simp)] at i2; have I1:=zH i1; have I3:=zH i3; have I4:=zH i4; have HF9:=zH (fail_any a0 a1 lo q r e2 (!mk) 0 xw i2); rw [HV.out] at HF9; clear i1 i2 i3 i4
     go_wp2_with fail
     refine HF9.out.mono ?_; rintro e wx ⟨rfl,hb9,hx9,hk9⟩; have HB9:=zH hb9; have HX9:=zH hx9; have HK9:=zH hk9; clear hb9 hx9 hk9 HF9
     go_wp2
     exact ⟨rfl,trivial,⟨fun _ => HB9.out,fun h9 => absurd rfl h9⟩,I1.out.trans HB9.out,by rw [z0h,if_pos rfl,<- HE.out]; exact HX9.out,I3.out.keep HK9.out,I4.out.upB HB9.out⟩
    ·
     intro vals xw f hall hI hF; rw [show List.range _ = [0,1,2,3,4,5,6,7,8,9] from rfl] at hF; simp only [says,zF,zR,and_true] at hF; obtain ⟨i1,i2,i3,i4⟩:=hI; rw [hall 9 (by decide),if_pos rfl] at i2; have I1:=zH i1; have I2:=zH i2; have I3:=zH i3; have hsz9:=i1.bel.size; clear i1 i2 i3 hF; simp only [z01,Act.put,zQ]; have hal9 : Below xw.heap.size xw (xw.alloc (.cells #[.int .i64 x] 110)):=(Below.refl _ _).alloc (Nat.le_refl _) _; have HAL:=zH hal9; have hsz8 : w.heap.size <= (xw.alloc (.cells #[.int .i64 x] 110)).heap.size:=Nat.le_trans hsz9 hal9.size; have I4 : Hid (z0u (xw.alloc (.cells #[.int .i64 x] 110)) w.heap.size (.slice A1 l.length c1) l):=zH (z0e i4 hal9 (Nat.le_refl _)); clear i4 hal9
     go_wp2_with (at_builtin; refine z0y (ys:=l2) (by rfl) (.tmp 35) (.tmp 37) (by rfl) (by rfl) (by rfl) I4.out (heap_alloc_new _ _) (by omega) hsz8 HL2.out ?_; intro A2 c2 w2 hown2 hg2)
     have hal9:=HAL.out; obtain ⟨hs9,hb8⟩:=I4.out.grown hg2 hsz8 hlo
     go_roundw
     case rel => exact ⟨k + 1,l2,A2,c2,by omega,by go_num,rfl,by rw [HL2.out,HL.out,HXX.out]; simp,hown2,(I1.out.trans (.of hal9 I2.out.size)).then hb8 hlo,by rw [<- HE3.out]; exact (I2.out.up hal9).upS hs9,(I3.out.up hal9).keep hs9.ck⟩
     case measure => simp [intOf]; omega
   ·
    have hke : k = xs.length:=by omega
    subst hke; have hlt2 : ¬ ((xs.length : Nat) : Int) < xs.length:=by omega
    go_wp2
    go_ret
    have hl9 : l = xs:=by rw [HL.out]; exact List.take_length
    subst hl9; rw [HR.out]; exact ⟨A1,c1,rfl,HOWN.out.pl.1,HOWN.out.pl.2,HBB.out,HBX.out,HCC.out⟩
def pickN (ok : Bool) (out : N × List Int) : N × List Int:=match ok with | true => out | false => (⟨0,[]⟩,[])
def bitsOut (t : BS × List Int) : N × List Int:=if t.1.e = none then (t.1.n,t.2) else (⟨0,[]⟩,[])
def Apart9 (A B : Option Addr) (n m : Nat) : Prop:=∀ a b,A = some a -> B = some b -> 0 < n -> 0 < m -> a.block ≠ b.block
theorem apart_of {α β : Type} {L : Lay α} {M : Lay β} {w w' : World} {F G : Nat -> Prop} {A B : Option Addr} {xs : List α} {ys : List β} (h : L.Sl w F A xs) (h' : M.Sl w' G B ys) (hFG : ∀ b,F b -> G b -> False) : Apart9 A B xs.length ys.length:=fun a b ha hb h1 h2 e => by
 obtain ⟨a',e1,f,_⟩:=h h1; obtain ⟨b',e2,g,_⟩:=h' h2; rw [ha] at e1
 injection e1 with e1
 subst e1; rw [hb] at e2
 injection e2 with e2
 subst e2; exact hFG _ f (e ▸ g)
theorem z20 {A B : Option Addr} {n m : Nat} (h : n = 0) : Apart9 A B n m:=fun _ _ _ _ h1 => by omega
def RetBits (r : N × List Int) (w : World) (e : Ending) (w' : World) : Prop :=
 ∃ A B c d,e = .returned (.tuple #[.agg #[.int .i64 r.1.ins,.slice A r.1.gs.length c],.slice B r.2.length d]) /\ r.1.gs.length <= c /\ r.2.length <= d /\ Lay.gate.Sl w' (Own w.heap.size w') A r.1.gs /\ Lay.int.Sl w' (Own w.heap.size w') B r.2 /\ Below w.heap.size w w' /\ Apart9 A B r.1.gs.length r.2.length
def RetBC (a0 a1 : Addr) (lo : Nat) (w : World) (q r : Nat) (out : N × List Int) (e : Ending) (w' : World) : Prop :=
 ∃ (T : BS × List Int) (A : Option Addr) (c : Nat),e = .returned (.slice A T.2.length c) /\ T.2.length <= 1000 /\ Lay.int.Pl w' A T.2 /\ BelB lo w w' /\ Bd a0 a1 lo w' q r T.1 /\ bitsOut T = out
def BuiltI (w5 : World) (bx : Nat) (v : Value) (cs : Array Value) (done : Bool) (x : World) : Prop :=
 w5.grownBy x (some bx) /\ (done = false -> x.heap[bx]? = some (.cells #[.int .i64 0,.slice none 0 0] 29 (0,0))) /\ (done = true -> x.heap[bx]? = some (.cells cs 29 (0,0)))
theorem grown_trans9 {a b c : World} {r : Option Nat} (h : a.grownBy b r) (k : b.grownBy c r) : a.grownBy c r:=⟨k.os.trans h.os,k.tape.trans h.tape,k.output.trans h.output,Nat.le_trans h.size k.size,fun i hi hn => (k.block i (Nat.lt_of_lt_of_le hi h.size) hn).trans (h.block i hi hn)⟩
theorem grown_of9 {a b : World} (h : Below a.heap.size a b) (r : Option Nat) : a.grownBy b r:=⟨h.os,h.tape,h.output,h.size,fun i hi _ => h.block i hi⟩
theorem BuiltI.up {w5 x x' : World} {bx : Nat} {v : Value} {cs : Array Value} {done : Bool} (h : BuiltI w5 bx v cs done x) (hb : Below x.heap.size x x') : BuiltI w5 bx v cs done x' :=
 ⟨grown_trans9 h.1 (grown_of9 hb _),fun hd => (hb.block _ (lt_of_block (h.2.1 hd))).trans (h.2.1 hd),fun hd => (hb.block _ (lt_of_block (h.2.2 hd))).trans (h.2.2 hd)⟩
theorem z1q {α : Type} {L : Lay α} {x y : World} {lo bx : Nat} {A : Option Addr} {xs : List α} (h : L.Sl x (Own lo x) A xs) (hg : x.grownBy y (some bx)) (hb : bx < lo) : L.Sl y (Own lo y) A xs:=by
 have hk : ∀ b,Own lo x b -> y.heap[b]? = x.heap[b]?:=fun b hb' => hg.block b hb'.2.1 (fun e => by injection e with e; have:=hb'.1; omega)
 refine (h.keep hk).mono fun b hb' => ⟨hb'.1,Nat.lt_of_lt_of_le hb'.2.1 hg.size,fun o => ?_⟩
 have:=hb'.2.2 o; unfold World.frozen? at this ⊢; rw [hk b hb']; exact this
theorem z1y {α : Type} {L : Lay α} {w : World} {A : Option Addr} {xs : List α} {b b' : Nat} (h : L.Sl w (Own b w) A xs) (hb : b' <= b) : L.Sl w (Own b' w) A xs:=h.mono fun _ ⟨h1,h2⟩ => ⟨Nat.le_trans hb h1,h2⟩
theorem Lay.Sl.upP {α : Type} {L : Lay α} {w w' : World} {A : Option Addr} {xs : List α} (h : L.Pl w A xs) (hb : Below w.heap.size w w') : L.Pl w' A xs :=
 (h.keep fun b hp => hb.block b hp.lt).mono fun b ⟨cs,fr,h1⟩ => ⟨cs,fr,(hb.block b (lt_of_block h1)).trans h1⟩
theorem mark_mb {n : N} {m : Int} (hn : NB n) (h : z07 n m = true) : MB m:=by
 obtain ⟨h0,h1,h2⟩:=hn; have : m ≠ 0 /\ -(1 + n.ins + n.gs.length) <= m /\ m <= 1 + n.ins + n.gs.length:=by simpa [z07,z27] using h
 unfold MB; omega
theorem z1h {n : N} {a : List Int} : z1m n a = true ↔ 1 <= a.length /\ a.length <= 4 /\ ∀ m ∈ a,z07 n m = true:=by
 unfold z1m; simp only [Bool.and_eq_true,decide_eq_true_eq,List.all_eq_true,and_assoc]
def TwoI (a0 a1 : Addr) (lo : Nat) (W : World) (q r : Nat) (n : N) (e : Option Nat) (x : World) : Prop:=BelB lo W x /\ Bx a0 a1 lo x q r e /\ Circ lo x r n n.gs
theorem TwoI.up {a0 a1 : Addr} {lo : Nat} {W : World} {q r : Nat} {n : N} {e : Option Nat} {x x' : World} (h : TwoI a0 a1 lo W q r n e x) (hb : Below x.heap.size x x') : TwoI a0 a1 lo W q r n e x':=⟨h.1.trans (.of hb h.2.1.size),h.2.1.up hb,h.2.2.up hb⟩
def stE (b : Bool) (e e' : Option Nat) : Option Nat:=if b = true then e else e'
def bitsOk (n : N) (ok : Bool) (p : PG (List Int)) : N × List Int:=if ok = true then bitsOut (run opsP p ⟨n,none⟩) else (⟨0,[]⟩,[])
theorem five_boxes (w : World) (o0 o1 o2 o3 o4 : Obj) : Below w.heap.size w (((((w.alloc o0).alloc o1).alloc o2).alloc o3).alloc o4) /\ (((((w.alloc o0).alloc o1).alloc o2).alloc o3).alloc o4).heap[w.heap.size]? = some o0 /\ (((((w.alloc o0).alloc o1).alloc o2).alloc o3).alloc o4).heap[w.heap.size + 1]? = some o1 ∧
  (((((w.alloc o0).alloc o1).alloc o2).alloc o3).alloc o4).heap[w.heap.size + 1 + 1]? = some o2 /\ (((((w.alloc o0).alloc o1).alloc o2).alloc o3).alloc o4).heap[w.heap.size + 1 + 1 + 1]? = some o3 /\ (((((w.alloc o0).alloc o1).alloc o2).alloc o3).alloc o4).heap[w.heap.size + 1 + 1 + 1 + 1]? = some o4 /\ (((((w.alloc o0).alloc o1).alloc o2).alloc o3).alloc o4).heap.size = w.heap.size + 1 + 1 + 1 + 1 + 1:=by
 have h0:=heap_alloc_new w o0; have h1:=heap_alloc_new (w.alloc o0) o1; have h2:=heap_alloc_new ((w.alloc o0).alloc o1) o2; have h3:=heap_alloc_new (((w.alloc o0).alloc o1).alloc o2) o3; have h4:=heap_alloc_new ((((w.alloc o0).alloc o1).alloc o2).alloc o3) o4; have b1 : Below w.heap.size w (w.alloc o0):=(Below.refl _ _).alloc (Nat.le_refl _) _; have old : ∀ (u : World) (o : Obj) (k : Nat) (x : Obj),u.heap[k]? = some x -> (u.alloc o).heap[k]? = some x:=fun u o k x hx => (((Below.refl _ _).alloc (Nat.le_refl u.heap.size) o : Below u.heap.size u (u.alloc o)).block k (Array.getElem?_eq_some_iff.1 hx).1).trans hx
 refine ⟨(((b1.alloc (by simp) _).alloc (by simp; omega) _).alloc (by simp; omega) _).alloc (by simp; omega) _,old _ _ _ _ (old _ _ _ _ (old _ _ _ _ (old _ _ _ _ h0))),old _ _ _ _ (old _ _ _ _ (old _ _ _ _ (by simpa using h1))),old _ _ _ _ (old _ _ _ _ (by simpa using h2)),old _ _ _ _ (by simpa using h3),by simpa using h4,by simp⟩
def RetK (F : Nat -> Prop) (w : World) (res : (N × Bool) × Int) (e : Ending) (w' : World) : Prop :=
 ∃ A c,e = .returned (.tuple #[.agg #[.int .i64 res.1.1.ins,.slice A res.1.1.gs.length c,.bool res.1.2],.int .i64 res.2]) /\ (A = none -> res.1.1.gs.length = 0) /\ Lay.gate.Sl w' (fun b => F b \/ (w.heap.size <= b /\ b < w'.heap.size)) A res.1.1.gs /\ Below w.heap.size w w'
abbrev st3 (w : World) (h : Nat) (u0 u1 u2 : Value) : World:=((w.setCell ⟨h,0,none⟩ u0).setCell ⟨h,1,none⟩ u1).setCell ⟨h,2,none⟩ u2
theorem z0s {w : World} {h : Nat} {v0 v1 v2 : Value} {t : TypeId} (hb : w.heap[h]? = some (.cells #[v0,v1,v2] t (0,0))) (u0 u1 u2 : Value) : (st3 w h u0 u1 u2).heap[h]? = some (.cells #[u0,u1,u2] t (0,0)) :=
 z04 _ h 2 u2 _ _ (z04 _ h 1 u1 _ _ (z04 w h 0 u0 _ _ hb))
theorem st3_other {w : World} {h b : Nat} {u0 u1 u2 : Value} (hb : b ≠ h) : (st3 w h u0 u1 u2).heap[b]? = w.heap[b]? :=
 (heap_setCell_other _ _ _ _ hb).trans ((heap_setCell_other _ _ _ _ hb).trans (heap_setCell_other _ _ _ _ hb))
theorem z0i {B : Nat} {a w : World} {h : Nat} (hb : Below B a w) (hh : B <= h) (u0 u1 u2 : Value) : Below B a (st3 w h u0 u1 u2):=z0b (z0b (z0b hb hh _) hh _) hh _
theorem z1a {α : Type} {L : Lay α} {w : World} {h : Nat} {F : Nat -> Prop} {A : Option Addr} {xs : List α} (hs : L.Sl w F A xs) (hne : ∀ b,F b -> b ≠ h) (u0 u1 u2 : Value) : L.Sl (st3 w h u0 u1 u2) F A xs:=hs.keep fun b hb => st3_other (hne b hb)
theorem z0o {w : World} {h : Nat} {u0 u1 u2 : Value} : (st3 w h u0 u1 u2).heap.size = w.heap.size:=by simp [st3,World.setCell]
set_option maxHeartbeats 2000000 in
theorem l7And_any (F : Nat -> Prop) (A : Option Addr) (c : Nat) (k : N × Bool) (a b : Int) (w : World) (h : Lay.gate.Sl w F A k.1.gs) (hF : ∀ b,F b -> b < w.heap.size) (hA : A = none -> k.1.gs.length = 0) (hnb : NB k.1) (ha : RB a) (hb : RB b) :
  Calls Tryz.prog 115 #[.agg #[.int .i64 k.1.ins,.slice A k.1.gs.length c,.bool k.2],.int .i64 a,.int .i64 b] w (RetK F w (opsR.and k a b)):=by
 show Calls _ _ _ _ (RetK F w (stepR k (and1 k.1 a b)))
 obtain ⟨n,ok⟩:=k; dsimp only at h hA hnb ⊢; obtain ⟨n0,n1,n2⟩:=hnb; obtain ⟨a0,a1⟩:=ha; obtain ⟨b0,b1⟩:=hb; obtain ⟨hW,hB0,hB1,hWS⟩:=z0p w (.cells #[.int .i64 n.ins,.slice A n.gs.length c,.bool ok] 85) (.cells #[.int .i64 0,.slice none 0 0,.bool false] 85); have HB0:=zH hB0; have HB1:=zH hB1; have HW:=zH hW; have HWS:=zH hWS; have H:=zH h; have HF:=zH hF; have z0:=(z00 hB0 0).1; have z1:=(z00 hB0 1).1; have z2:=(z00 hB0 2).1; have HCL:=zH (l6And_any F A c n a b _ (h.below hW hF) (fun b hb => Nat.lt_of_lt_of_le (hF b hb) hW.size) (by omega) hA n0 (by omega) (by omega) (by omega)); clear h hF hB0 hB1 hWS hW
 cases ok
 ·
  have y0:=(z00 HB1.out 0).1; have y1:=(z00 HB1.out 1).1; have y2:=(z00 HB1.out 2).1; have f0:=(z00 HB1.out 0).2; have f1:=(z00 HB1.out 1).2; have f2:=(z00 HB1.out 2).2; clear HCL
  go_enter Tryz.func115,Tryz.ntmps115
  go_wp2
  refine bodyPost_ret (v:=.tuple #[.agg #[.int .i64 n.ins,.slice A n.gs.length c,.bool false],.int .i64 1]) (by simp [results,Tryz.results115,go_sem]) rfl ?_; rw [show stepR (n,false) (and1 n a b) = ((n,false),1) from if_pos rfl]; exact ⟨A,c,rfl,hA,(H.out.below (z0p w _ _).1 HF.out).mono fun _ => .inl,(z0p w _ _).1⟩
 ·
  go_enter Tryz.func115,Tryz.ntmps115
  go_wp2_with fail
  refine HCL.out.mono ?_; generalize (w.alloc (.cells #[.int .i64 n.ins,.slice A n.gs.length c,.bool true] 85)).alloc (.cells #[.int .i64 0,.slice none 0 0,.bool false] 85) = W at *; rw [show stepR (n,true) (and1 n a b) = (((and1 n a b).1,decide ((and1 n a b).2 ≠ 0)),(and1 n a b).2) from if_neg (by simp)]; generalize and1 n a b = m at *; rintro e w1 ⟨A1,c1,rfl,hA1,hs1,hb1⟩; have HS1:=zH hs1; have HX1:=zH ((hb1.block _ (lt_of_block HB1.out)).trans HB1.out); have HW1:=zH hb1; clear hs1 hb1 HCL z0 z1 z2; have hal : Below w1.heap.size w1 (w1.alloc (.cells #[.int .i64 m.1.ins,.slice A1 m.1.gs.length c1] 29)):=(Below.refl _ _).alloc (Nat.le_refl _) _; have hx2:=(hal.block _ (lt_of_block HX1.out)).trans HX1.out; have y0:=(z00 hx2 0).1; have y1:=(z00 hx2 1).1; have y2:=(z00 hx2 2).1; have f0:=(z00 hx2 0).2; have f1:=(z00 hx2 1).2; have f2:=(z00 hx2 2).2; have HX2:=zH hx2; have HAL:=zH hal; clear hx2 hal
  go_wp2
  generalize hW2 : w1.alloc (.cells #[.int .i64 m.1.ins,.slice A1 m.1.gs.length c1] 29) = W2 at *; have hs:=z0s HX2.out (.int .i64 m.1.ins) (.slice A1 m.1.gs.length c1) (.bool (m.2 != 0)); have k5:=(z00 hs 0).1; have k6:=(z00 hs 1).1; have k7:=(z00 hs 2).1; have kf5:=(z00 hs 0).2; have kf6:=(z00 hs 1).2; have kf7:=(z00 hs 2).2; refine bodyPost_ret (v:=.tuple #[.agg #[.int .i64 m.1.ins,.slice A1 m.1.gs.length c1,.bool (m.2 != 0)],.int .i64 m.2]) (by simp [results,Tryz.results115,go_sem,k5,k6,k7,kf5,kf6,kf7]) rfl ?_; have hd : (m.2 != 0) = decide (m.2 ≠ 0):=by by_cases h : m.2 = 0 <;> simp [h]
  rw [hd]; have hsz:=HAL.out.size; have hsz1:=HW1.out.size; refine ⟨A1,c1,rfl,hA1,(z1a (h:=w.heap.size + 1) (HS1.out.below HAL.out (fun b hb => ?_)) (fun b hb => ?_) _ _ _).mono (fun b hb => ?_),z0i (z09 (z09 HW.out HW1.out) HAL.out) (by omega) _ _ _⟩
  ·
   rcases hb with hb | hb
   · have:=HF.out b hb; have:=HW.out.size; omega
   · exact hb.2
  ·
   rcases hb with hb | hb
   · have:=HF.out b hb; omega
   · have:=HWS.out; omega
  ·
   rcases hb with hb | hb
   · exact .inl hb
   · exact .inr ⟨by have:=HWS.out; omega,by rw [z0o]; omega⟩
set_option maxHeartbeats 2000000 in
theorem l7Xor_any (F : Nat -> Prop) (A : Option Addr) (c : Nat) (k : N × Bool) (a b : Int) (w : World) (h : Lay.gate.Sl w F A k.1.gs) (hF : ∀ b,F b -> b < w.heap.size) (hA : A = none -> k.1.gs.length = 0) (hnb : NB k.1) (ha : RB a) (hb : RB b) :
  Calls Tryz.prog 114 #[.agg #[.int .i64 k.1.ins,.slice A k.1.gs.length c,.bool k.2],.int .i64 a,.int .i64 b] w (RetK F w (opsR.xor k a b)):=by
 show Calls _ _ _ _ (RetK F w (stepR k (xor1 k.1 a b)))
 obtain ⟨n,ok⟩:=k; dsimp only at h hA hnb ⊢; obtain ⟨n0,n1,n2⟩:=hnb; obtain ⟨a0,a1⟩:=ha; obtain ⟨b0,b1⟩:=hb; obtain ⟨hW,hB0,hB1,hWS⟩:=z0p w (.cells #[.int .i64 n.ins,.slice A n.gs.length c,.bool ok] 85) (.cells #[.int .i64 0,.slice none 0 0,.bool false] 85); have HB0:=zH hB0; have HB1:=zH hB1; have HW:=zH hW; have HWS:=zH hWS; have H:=zH h; have HF:=zH hF; have z0:=(z00 hB0 0).1; have z1:=(z00 hB0 1).1; have z2:=(z00 hB0 2).1; have HCL:=zH (l6Xor_any F A c n a b _ (h.below hW hF) (fun b hb => Nat.lt_of_lt_of_le (hF b hb) hW.size) (by omega) hA n0 (by omega) (by omega) (by omega)); clear h hF hB0 hB1 hWS hW
 cases ok
 ·
  have y0:=(z00 HB1.out 0).1; have y1:=(z00 HB1.out 1).1; have y2:=(z00 HB1.out 2).1; have f0:=(z00 HB1.out 0).2; have f1:=(z00 HB1.out 1).2; have f2:=(z00 HB1.out 2).2; clear HCL
  go_enter Tryz.func114,Tryz.ntmps114
  go_wp2
  refine bodyPost_ret (v:=.tuple #[.agg #[.int .i64 n.ins,.slice A n.gs.length c,.bool false],.int .i64 1]) (by simp [results,Tryz.results114,go_sem]) rfl ?_; rw [show stepR (n,false) (xor1 n a b) = ((n,false),1) from if_pos rfl]; exact ⟨A,c,rfl,hA,(H.out.below (z0p w _ _).1 HF.out).mono fun _ => .inl,(z0p w _ _).1⟩
 ·
  go_enter Tryz.func114,Tryz.ntmps114
  go_wp2_with fail
  refine HCL.out.mono ?_; generalize (w.alloc (.cells #[.int .i64 n.ins,.slice A n.gs.length c,.bool true] 85)).alloc (.cells #[.int .i64 0,.slice none 0 0,.bool false] 85) = W at *; rw [show stepR (n,true) (xor1 n a b) = (((xor1 n a b).1,decide ((xor1 n a b).2 ≠ 0)),(xor1 n a b).2) from if_neg (by simp)]; generalize xor1 n a b = m at *; rintro e w1 ⟨A1,c1,rfl,hA1,hs1,hb1⟩; have HS1:=zH hs1; have HX1:=zH ((hb1.block _ (lt_of_block HB1.out)).trans HB1.out); have HW1:=zH hb1; clear hs1 hb1 HCL z0 z1 z2; have hal : Below w1.heap.size w1 (w1.alloc (.cells #[.int .i64 m.1.ins,.slice A1 m.1.gs.length c1] 29)):=(Below.refl _ _).alloc (Nat.le_refl _) _; have hx2:=(hal.block _ (lt_of_block HX1.out)).trans HX1.out; have y0:=(z00 hx2 0).1; have y1:=(z00 hx2 1).1; have y2:=(z00 hx2 2).1; have f0:=(z00 hx2 0).2; have f1:=(z00 hx2 1).2; have f2:=(z00 hx2 2).2; have HX2:=zH hx2; have HAL:=zH hal; clear hx2 hal
  go_wp2
  generalize hW2 : w1.alloc (.cells #[.int .i64 m.1.ins,.slice A1 m.1.gs.length c1] 29) = W2 at *; have hs:=z0s HX2.out (.int .i64 m.1.ins) (.slice A1 m.1.gs.length c1) (.bool (m.2 != 0)); have k5:=(z00 hs 0).1; have k6:=(z00 hs 1).1; have k7:=(z00 hs 2).1; have kf5:=(z00 hs 0).2; have kf6:=(z00 hs 1).2; have kf7:=(z00 hs 2).2; refine bodyPost_ret (v:=.tuple #[.agg #[.int .i64 m.1.ins,.slice A1 m.1.gs.length c1,.bool (m.2 != 0)],.int .i64 m.2]) (by simp [results,Tryz.results114,go_sem,k5,k6,k7,kf5,kf6,kf7]) rfl ?_; have hd : (m.2 != 0) = decide (m.2 ≠ 0):=by by_cases h : m.2 = 0 <;> simp [h]
  rw [hd]; have hsz:=HAL.out.size; have hsz1:=HW1.out.size; refine ⟨A1,c1,rfl,hA1,(z1a (h:=w.heap.size + 1) (HS1.out.below HAL.out (fun b hb => ?_)) (fun b hb => ?_) _ _ _).mono (fun b hb => ?_),z0i (z09 (z09 HW.out HW1.out) HAL.out) (by omega) _ _ _⟩
  ·
   rcases hb with hb | hb
   · have:=HF.out b hb; have:=HW.out.size; omega
   · exact hb.2
  ·
   rcases hb with hb | hb
   · have:=HF.out b hb; omega
   · have:=HWS.out; omega
  ·
   rcases hb with hb | hb
   · exact .inl hb
   · exact .inr ⟨by have:=HWS.out; omega,by rw [z0o]; omega⟩
structure KS (F : Nat -> Prop) (w x : World) (k : N × Bool) (A : Option Addr) (c : Nat) : Prop where
 bel : Below w.heap.size w x
 var : x.heap[w.heap.size]? = some (.cells #[.int .i64 k.1.ins,.slice A k.1.gs.length c,.bool k.2] 85 (0,0))
 res : x.heap[w.heap.size + 1]? = some (.cells #[.int .i64 0,.slice none 0 0,.bool false] 85 (0,0))
 row : Lay.gate.Sl x (fun b => F b \/ (w.heap.size + 2 <= b /\ b < x.heap.size)) A k.1.gs
 nil : A = none -> k.1.gs.length = 0
theorem KS.lt {F : Nat -> Prop} {w x : World} {k : N × Bool} {A : Option Addr} {c : Nat} (h : KS F w x k A c) (hF : ∀ b,F b -> b < w.heap.size) : ∀ b,(fun b => F b \/ (w.heap.size + 2 <= b /\ b < x.heap.size)) b -> b < x.heap.size:=fun b hb => by
 rcases hb with hb | hb
 · have:=hF b hb; have:=h.bel.size; omega
 · exact hb.2
theorem KS.up {F : Nat -> Prop} {w x x' : World} {k : N × Bool} {A : Option Addr} {c : Nat} (h : KS F w x k A c) (hF : ∀ b,F b -> b < w.heap.size) (hb : Below x.heap.size x x') : KS F w x' k A c :=
 ⟨z09 h.bel hb,(hb.block _ (lt_of_block h.var)).trans h.var,(hb.block _ (lt_of_block h.res)).trans h.res,(h.row.below hb (h.lt hF)).mono fun b hb' => hb'.imp id fun h9 => ⟨h9.1,Nat.lt_of_lt_of_le h9.2 hb.size⟩,h.nil⟩
theorem KS.step {F : Nat -> Prop} {w x x' : World} {k k' : N × Bool} {A A' : Option Addr} {c c' : Nat} (h : KS F w x k A c) (hF : ∀ b,F b -> b < w.heap.size) (hs : Lay.gate.Sl x' (fun b => (fun b => F b \/ (w.heap.size + 2 <= b /\ b < x.heap.size)) b \/ (x.heap.size <= b /\ b < x'.heap.size)) A' k'.1.gs) (hb : Below x.heap.size x x') (hn : A' = none -> k'.1.gs.length = 0) :
  KS F w (st3 x' w.heap.size (.int .i64 k'.1.ins) (.slice A' k'.1.gs.length c') (.bool k'.2)) k' A' c':=by
 have hv:=(hb.block _ (lt_of_block h.var)).trans h.var; have hr:=(hb.block _ (lt_of_block h.res)).trans h.res; have hx:=lt_of_block h.res; have hsz:=hb.size; refine ⟨z0i (z09 h.bel hb) (Nat.le_refl _) _ _ _,z0s hv _ _ _,(st3_other (by omega)).trans hr,(z1a (h:=w.heap.size) hs (fun b hb' => ?_) _ _ _).mono (fun b hb' => ?_),hn⟩
 ·
  rcases hb' with (hb' | hb') | hb'
  · have:=hF b hb'; omega
  · omega
  · omega
 ·
  rw [z0o]
  rcases hb' with (hb' | hb') | hb'
  · exact .inl hb'
  · exact .inr ⟨hb'.1,by omega⟩
  · exact .inr ⟨by omega,hb'.2⟩
theorem KS.two {F : Nat -> Prop} {w : World} {k : N × Bool} {A : Option Addr} {c : Nat} (h : Lay.gate.Sl w F A k.1.gs) (hF : ∀ b,F b -> b < w.heap.size) (hA : A = none -> k.1.gs.length = 0) : KS F w ((w.alloc (.cells #[.int .i64 k.1.ins,.slice A k.1.gs.length c,.bool k.2] 85)).alloc (.cells #[.int .i64 0,.slice none 0 0,.bool false] 85)) k A c:=by
 obtain ⟨hW,h0,h1,_⟩:=z0p w (.cells #[.int .i64 k.1.ins,.slice A k.1.gs.length c,.bool k.2] 85) (.cells #[.int .i64 0,.slice none 0 0,.bool false] 85); exact ⟨hW,h0,h1,(h.below hW hF).mono fun _ => .inl,hA⟩
theorem KS.done {F : Nat -> Prop} {w x : World} {k : N × Bool} {A : Option Addr} {c : Nat} {m : Int} (h : KS F w x k A c) (hF : ∀ b,F b -> b < w.heap.size) : RetK F w (k,m) (.returned (.tuple #[.agg #[.int .i64 k.1.ins,.slice A k.1.gs.length c,.bool k.2],.int .i64 m])) (st3 x (w.heap.size + 1) (.int .i64 k.1.ins) (.slice A k.1.gs.length c) (.bool k.2)):=by
 refine ⟨A,c,rfl,h.nil,(z1a (h:=w.heap.size + 1) h.row (fun b hb => ?_) _ _ _).mono (fun b hb => ?_),z0i h.bel (by omega) _ _ _⟩
 ·
  rcases hb with hb | hb
  · have:=hF b hb; omega
  · omega
 ·
  rw [z0o]; exact hb.imp id fun h9 => ⟨by omega,h9.2⟩
theorem KS.out {F : Nat -> Prop} {w x x' : World} {k k' : N × Bool} {A A' : Option Addr} {c c' : Nat} {m : Int} (h : KS F w x k A c) (hF : ∀ b,F b -> b < w.heap.size) (hs : Lay.gate.Sl x' (fun b => (fun b => F b \/ (w.heap.size + 2 <= b /\ b < x.heap.size)) b \/ (x.heap.size <= b /\ b < x'.heap.size)) A' k'.1.gs) (hb : Below x.heap.size x x') (hn : A' = none -> k'.1.gs.length = 0) :
  RetK F w (k',m) (.returned (.tuple #[.agg #[.int .i64 k'.1.ins,.slice A' k'.1.gs.length c',.bool k'.2],.int .i64 m])) (st3 x' (w.heap.size + 1) (.int .i64 k'.1.ins) (.slice A' k'.1.gs.length c') (.bool k'.2)):=by
 have hx:=lt_of_block h.res; refine ⟨A',c',rfl,hn,(z1a (h:=w.heap.size + 1) hs (fun b hb' => ?_) _ _ _).mono (fun b hb' => ?_),z0i (z09 h.bel hb) (by omega) _ _ _⟩
 ·
  rcases hb' with (hb' | hb') | hb'
  · have:=hF b hb'; omega
  · omega
  · omega
 ·
  rw [z0o]; have hsz:=hb.size
  rcases hb' with (hb' | hb') | hb'
  · exact .inl hb'
  · exact .inr ⟨by omega,by omega⟩
  · exact .inr ⟨by omega,hb'.2⟩
set_option maxHeartbeats 2000000 in
theorem l7Or_any (F : Nat -> Prop) (A : Option Addr) (c : Nat) (k : N × Bool) (a b : Int) (w : World) (h : Lay.gate.Sl w F A k.1.gs) (hF : ∀ b,F b -> b < w.heap.size) (hA : A = none -> k.1.gs.length = 0) (hnb : NB k.1) (ha : RB a) (hb : RB b) :
  Calls Tryz.prog 116 #[.agg #[.int .i64 k.1.ins,.slice A k.1.gs.length c,.bool k.2],.int .i64 a,.int .i64 b] w (RetK F w (run opsR (orP a b) k)):=by
 have K0:=KS.two (c:=c) h hF hA; have HF:=zH hF; have HNB:=zH hnb; clear h hA; have Ra:=zH ha; obtain ⟨a0,a1⟩:=ha; have Rb:=zH hb; obtain ⟨b0,b1⟩:=hb
 show Calls _ _ _ _ (RetK F w ((opsR.and k (-a) (-b)).1,-(opsR.and k (-a) (-b)).2))
 have HM:=zH (z2g (r:=and1 k.1 (-a) (-b)) (k:=k) hnb (and1_nb hnb Ra.out.neg Rb.out.neg)).2; rw [show stepR k (and1 k.1 (-a) (-b)) = opsR.and k (-a) (-b) from rfl] at HM; have y0:=(z00 K0.var 0).1; have y1:=(z00 K0.var 1).1; have y2:=(z00 K0.var 2).1; have HC:=zH (l7And_any _ A c k (-a) (-b) _ K0.row (K0.lt HF.out) K0.nil hnb Ra.out.neg Rb.out.neg); generalize hm : opsR.and k (-a) (-b) = m at *; have Hm:=zH hm; clear hm; have K0:=zH K0
 go_enter Tryz.func116,Tryz.ntmps116
 go_wp2_with fail
 refine HC.out.mono ?_; generalize hX0 : (w.alloc (.cells #[.int .i64 k.1.ins,.slice A k.1.gs.length c,.bool k.2] 85)).alloc (.cells #[.int .i64 0,.slice none 0 0,.bool false] 85) = X0 at *; clear hX0; rintro e z1 ⟨A1,c1,rfl,hn9,hs9,hb9⟩; have hv9:=(hb9.block _ (lt_of_block K0.out.var)).trans K0.out.var; clear y0 y1 y2; have y0:=(z00 hv9 0).1; have y1:=(z00 hv9 1).1; have y2:=(z00 hv9 2).1; have f0:=(z00 hv9 0).2; have f1:=(z00 hv9 1).2; have f2:=(z00 hv9 2).2; have K9:=K0.out.step (c':=c1) HF.out hs9 hb9 hn9; dsimp only [st3] at K9; have K1:=zH K9; clear K9 HC hs9 hb9 hn9 hv9 K0; obtain ⟨hm0,hm1⟩:=HM.out; have q0:=(z00 K1.out.var 0).1; have q1:=(z00 K1.out.var 1).1; have q2:=(z00 K1.out.var 2).1; have r0:=(z00 K1.out.res 0).1; have r1:=(z00 K1.out.res 1).1; have r2:=(z00 K1.out.res 2).1; have rf0:=(z00 K1.out.res 0).2; have rf1:=(z00 K1.out.res 1).2; have rf2:=(z00 K1.out.res 2).2
 go_wp2
 generalize hX9 : ((z1.setCell ⟨w.heap.size,0,none⟩ (.int .i64 m.1.1.ins)).setCell ⟨w.heap.size,1,none⟩ (.slice A1 m.1.1.gs.length c1)).setCell ⟨w.heap.size,2,none⟩ (.bool m.1.2) = X9 at *; clear hX9; have hs:=z0s K1.out.res (.int .i64 m.1.1.ins) (.slice A1 m.1.1.gs.length c1) (.bool m.1.2); have k5:=(z00 hs 0).1; have kf5:=(z00 hs 0).2; have k6:=(z00 hs 1).1; have kf6:=(z00 hs 1).2; have k7:=(z00 hs 2).1; have kf7:=(z00 hs 2).2; refine bodyPost_ret (v:=.tuple #[.agg #[.int .i64 m.1.1.ins,.slice A1 m.1.1.gs.length c1,.bool m.1.2],.int .i64 (-m.2)]) (by simp [results,Tryz.results116,go_sem,k5,k6,k7,kf5,kf6,kf7]) rfl ?_; exact K1.out.done HF.out
set_option maxHeartbeats 2000000 in
theorem l7One_any (F : Nat -> Prop) (A : Option Addr) (c : Nat) (k : N × Bool) (a b d : Int) (w : World) (h : Lay.gate.Sl w F A k.1.gs) (hF : ∀ b,F b -> b < w.heap.size) (hA : A = none -> k.1.gs.length = 0) (hnb : NB k.1) (ha : RB a) (hb : RB b) (hd : RB d) :
  Calls Tryz.prog 120 #[.agg #[.int .i64 k.1.ins,.slice A k.1.gs.length c,.bool k.2],.int .i64 a,.int .i64 b,.int .i64 d] w (RetK F w (run opsR (muxP a b d) k)):=by
 have K0:=KS.two (c:=c) h hF hA; have HF:=zH hF; have HNB:=zH hnb; clear h hA; have Ra:=zH ha; obtain ⟨a0,a1⟩:=ha; have Rb:=zH hb; obtain ⟨b0,b1⟩:=hb; have Rd:=zH hd; obtain ⟨d0,d1⟩:=hd
 show Calls _ _ _ _ (RetK F w (run opsR (orP (opsR.and k a b).2 (opsR.and (opsR.and k a b).1 (-a) d).2) (opsR.and (opsR.and k a b).1 (-a) d).1))
 have HM1 : Hid (NB (opsR.and k a b).1.1 /\ RB (opsR.and k a b).2):=zH (z2g (r:=and1 k.1 a b) (k:=k) hnb (and1_nb hnb Ra.out Rb.out)); have HM2 : Hid (NB (opsR.and (opsR.and k a b).1 (-a) d).1.1 /\ RB (opsR.and (opsR.and k a b).1 (-a) d).2):=zH (z2g (r:=and1 (opsR.and k a b).1.1 (-a) d) (k:=(opsR.and k a b).1) HM1.out.1 (and1_nb HM1.out.1 Ra.out.neg Rd.out)); have y0:=(z00 K0.var 0).1; have y1:=(z00 K0.var 1).1; have y2:=(z00 K0.var 2).1; have HC:=zH (l7And_any _ A c k (a) (b) _ K0.row (K0.lt HF.out) K0.nil hnb Ra.out Rb.out); generalize hm : opsR.and k a b = m at *; have Hm:=zH hm; clear hm; have K0:=zH K0
 go_enter Tryz.func120,Tryz.ntmps120
 go_wp2_with fail
 refine HC.out.mono ?_; generalize hX0 : (w.alloc (.cells #[.int .i64 k.1.ins,.slice A k.1.gs.length c,.bool k.2] 85)).alloc (.cells #[.int .i64 0,.slice none 0 0,.bool false] 85) = X0 at *; clear hX0; rintro e z1 ⟨A1,c1,rfl,hn9,hs9,hb9⟩; have hv9:=(hb9.block _ (lt_of_block K0.out.var)).trans K0.out.var; clear y0 y1 y2; have y0:=(z00 hv9 0).1; have y1:=(z00 hv9 1).1; have y2:=(z00 hv9 2).1; have f0:=(z00 hv9 0).2; have f1:=(z00 hv9 1).2; have f2:=(z00 hv9 2).2; have K9:=K0.out.step (c':=c1) HF.out hs9 hb9 hn9; dsimp only [st3] at K9; have K1:=zH K9; clear K9 HC hs9 hb9 hn9 hv9 K0; have y0:=(z00 K1.out.var 0).1; have y1:=(z00 K1.out.var 1).1; have y2:=(z00 K1.out.var 2).1; have HC:=zH (l7And_any _ A1 c1 m.1 (-a) (d) _ K1.out.row (K1.out.lt HF.out) K1.out.nil HM1.out.1 Ra.out.neg Rd.out); generalize hp : opsR.and m.1 (-a) d = p at *; have Hp:=zH hp; clear hp
 go_wp2_with fail
 refine HC.out.mono ?_; generalize hX1 : ((z1.setCell ⟨w.heap.size,0,none⟩ (.int .i64 m.1.1.ins)).setCell ⟨w.heap.size,1,none⟩ (.slice A1 m.1.1.gs.length c1)).setCell ⟨w.heap.size,2,none⟩ (.bool m.1.2) = X1 at *; clear hX1; rintro e z2 ⟨A2,c2,rfl,hn9,hs9,hb9⟩; have hv9:=(hb9.block _ (lt_of_block K1.out.var)).trans K1.out.var; clear y0 y1 y2 f0 f1 f2; have y0:=(z00 hv9 0).1; have y1:=(z00 hv9 1).1; have y2:=(z00 hv9 2).1; have f0:=(z00 hv9 0).2; have f1:=(z00 hv9 1).2; have f2:=(z00 hv9 2).2; have K9:=K1.out.step (c':=c2) HF.out hs9 hb9 hn9; dsimp only [st3] at K9; have K2:=zH K9; clear K9 HC hs9 hb9 hn9 hv9 K1; have y0:=(z00 K2.out.var 0).1; have y1:=(z00 K2.out.var 1).1; have y2:=(z00 K2.out.var 2).1; have HC:=zH (l7Or_any _ A2 c2 p.1 (m.2) (p.2) _ K2.out.row (K2.out.lt HF.out) K2.out.nil HM2.out.1 HM1.out.2 HM2.out.2); generalize hq : run opsR (orP m.2 p.2) p.1 = q at *; have Hq:=zH hq; clear hq
 go_wp2_with fail
 refine HC.out.mono ?_; generalize hX2 : ((z2.setCell ⟨w.heap.size,0,none⟩ (.int .i64 p.1.1.ins)).setCell ⟨w.heap.size,1,none⟩ (.slice A2 p.1.1.gs.length c2)).setCell ⟨w.heap.size,2,none⟩ (.bool p.1.2) = X2 at *; clear hX2; rintro e z9 ⟨A9,c9,rfl,hn9,hs9,hb9⟩; have hr9:=(hb9.block _ (lt_of_block K2.out.res)).trans K2.out.res; clear y0 y1 y2 f0 f1 f2; have r0:=(z00 hr9 0).1; have r1:=(z00 hr9 1).1; have r2:=(z00 hr9 2).1; have rf0:=(z00 hr9 0).2; have rf1:=(z00 hr9 1).2; have rf2:=(z00 hr9 2).2; have HS9:=zH hs9; have HB9:=zH hb9; have HR9:=zH hr9; clear hs9 hb9 hr9 HC
 go_wp2
 have hs:=z0s HR9.out (.int .i64 q.1.1.ins) (.slice A9 q.1.1.gs.length c9) (.bool q.1.2); have k5:=(z00 hs 0).1; have kf5:=(z00 hs 0).2; have k6:=(z00 hs 1).1; have kf6:=(z00 hs 1).2; have k7:=(z00 hs 2).1; have kf7:=(z00 hs 2).2; refine bodyPost_ret (v:=.tuple #[.agg #[.int .i64 q.1.1.ins,.slice A9 q.1.1.gs.length c9,.bool q.1.2],.int .i64 q.2]) (by simp [results,Tryz.results120,go_sem,k5,k6,k7,kf5,kf6,kf7]) rfl ?_; exact K2.out.out HF.out HS9.out HB9.out hn9
theorem z0g {Q : Exit -> Act -> World -> Prop} {ops : Array Oper} {rest : List Oper} {o : Oper} {a : Act} {W : World} {lo : Nat} {A : Option Addr} {c : Nat} {xs ys : List Int} {x : Int} {e' : TypeId} (hgd : o.guard = none) (s y : Operand)
  (ho : o.op = .call { callee:=.builtin .append,args:=#[s,y],argTypes:=#[34,34] }) (hs : a.eval s = .slice A xs.length c) (hy : a.eval y = .slice (some ⟨W.heap.size,0,none⟩) 1 1)
  (hown : OwnI W lo (.slice A xs.length c) xs) (hn : xs.length <= 2000000) (hlo : lo <= W.heap.size) (hys : ys = xs ++ [x])
  (h : ∀ A' c' w',OwnI w' lo (.slice A' ys.length c') ys -> W.grownBy w' (Value.slice A xs.length c).ownBlock →
   ((Value.slice A' ys.length c').ownBlock = (Value.slice A xs.length c).ownBlock \/ ∃ g,(Value.slice A' ys.length c').ownBlock = some g /\ W.heap.size <= g) -> wpList Tryz.prog ops Q rest (a.put o.dst (.slice A' ys.length c')) w') :
  wpList Tryz.prog ops Q (o :: rest) a (W.alloc (.cells #[.int .i64 x] e')):=by
 obtain ⟨i0,hi0,hz0,hz1,hz2⟩:=info_parts int_info; have hal : Below W.heap.size W (W.alloc (.cells #[.int .i64 x] e')):=(Below.refl _ _).alloc (Nat.le_refl _) _; have hl : ys.length = xs.length + 1:=by rw [hys]; simp
 have hm : ys.map (Value.int .i64) = xs.map (Value.int .i64) ++ [.int .i64 x]:=by rw [hys]; simp
 refine wpList_plain hgd fun _ hK => ?_
 obtain ⟨v',w',hrun,ho',hg',_,hbk⟩:=run_append_own_at (P:=Tryz.prog) (W.alloc (.cells #[.int .i64 x] e')) lo 34 o.type 3 i0 _ 1 8 Tryz.underlying34 hi0 hz0 hz1 hz2 (by rfl) (by omega)
  (.slice A xs.length c) xs.length (xs.map (Value.int .i64)) (hown.up hal) ⟨W.heap.size,0,none⟩ 1 1 [.int .i64 x] (by rfl) (fun j u hu => by
   have:=World.news_of_block (heap_alloc_new W (.cells #[.int .i64 x] e')) j u hu; exact this) (by simp; rfl) (by unfold maxLen; omega) (by omega) (Nat.le_trans hlo hal.size)
 rw [<- hl,<- hm] at ho'; obtain ⟨A',c',rfl,_,_⟩:=OwnI.form (xs:=ys) ho'; unfold Oper.wp execOp; simp only [ho,resolve,invoke,builtin,Sem.run_bind,Sem.run_pure,Result.andThen_ok,List.map_toArray,List.map_cons,List.map_nil,hs,hy,hrun]; refine hK _ _ (h A' c' w' ho' (grown_then hal hg') ?_)
 rcases hbk with e | e
 · exact .inl e
 · exact .inr ⟨_,e,hal.size⟩
end Go.Proofs.YtemdmlmcidfodaaGreatDoor
