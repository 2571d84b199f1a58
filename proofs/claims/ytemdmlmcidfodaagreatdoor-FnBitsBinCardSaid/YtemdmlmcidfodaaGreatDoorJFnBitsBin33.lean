/- The program's bit vectors: VecOk, VecSigned, VecCmp where the vectors are right. -/
import Derived.Test.YtemdmlmcidfodaaGreatDoorJFnBitsBin0
import Derived.Test.YtemdmlmcidfodaaGreatDoorJFnBitsBin2
import Derived.Test.YtemdmlmcidfodaaGreatDoorJFnBitsBin10
import Derived.Test.YtemdmlmcidfodaaGreatDoorJFnBitsBin29
import Derived.Test.YtemdmlmcidfodaaGreatDoorJFnBitsBin32
namespace Go.Proofs.YtemdmlmcidfodaaGreatDoor
open Go Go.RowKit
theorem all_map {w : List Bool} {f : Int -> PG Int} {op : Bool -> Bool} {n0 : N}
  (hf : ∀ (Ψ : Int -> N -> Prop) (n : N) (x : Int),Ext n0 n -> z07 n x = true -> (∀ m n',Ext n n' -> z07 n' m = true -> (z21 n' w -> z08 w m = op (z08 w x)) -> Ψ m n') -> (f x).all w Ψ n) :
  ∀ (xs : List Int) (Φ : List Int -> N -> Prop) (n : N),Ext n0 n -> (∀ x ∈ xs,z07 n x = true) →
   (∀ ms n',Ext n n' -> ms.length = xs.length -> (∀ m ∈ ms,z07 n' m = true) -> (z21 n' w -> ms.map (z08 w) = (xs.map (z08 w)).map op) -> Φ ms n') -> (mapP f xs).all w Φ n
 | [],Φ,n,h0,_,h => h [] n (.refl h0.ok) rfl (fun _ h => by cases h) fun _ => rfl
 | x :: xs,Φ,n,h0,hx,h => by
  refine z1f _ _ _ (hf _ _ _ h0 (hx _ (.head _)) fun m n1 e1 m1 v1 => z1f _ _ _ (all_map hf xs _ n1 (h0.trans e1) (fun z hz => e1.has (hx z (.tail _ hz))) fun ms n2 e2 l2 m2 v2 => ?_)); refine h (m :: ms) n2 (e1.trans e2) (by simp [l2]) (fun z hz => ?_) fun hw => ?_
  ·
   rcases List.mem_cons.1 hz with rfl | hz
   · exact e2.has m1
   · exact m2 z hz
  · rw [List.map_cons,v2 hw,v1 (e2.obeys hw)]; rfl
def rowB (X : List Bool) (i : Nat) (y : Bool) : List Bool:=List.replicate i false ++ (X.take (X.length - i)).map fun x => x && y
def mulB (X : List Bool) : List Bool -> Nat -> List Bool -> List Bool
 | [],_,s => s
 | y :: ys,i,s => mulB X ys (i + 1) (addB s (rowB X i y) false)
def muxB (l : Bool) (a b : List Bool) : List Bool:=List.zipWith (fun x y => if l then x else y) a b
def divB (X W : List Bool) : Nat -> List Bool -> List Bool -> List Bool × List Bool
 | 0,q,r => (q,r)
 | k + 1,q,r => divB X W k (q.set k (!lessB (X.getD k false :: r) W false)) (muxB (lessB (X.getD k false :: r) W false) ((X.getD k false :: r).take X.length) ((addB (X.getD k false :: r) (W.map not) true).take X.length))
theorem divB_succ (X W : List Bool) (k : Nat) (q r : List Bool) : divB X W (k + 1) q r = divB X W k (q.set k (!lessB (X.getD k false :: r) W false)) (muxB (lessB (X.getD k false :: r) W false) ((X.getD k false :: r).take X.length) ((addB (X.getD k false :: r) (W.map not) true).take X.length)):=rfl
def fromB (up : Bool) (s : List Bool) (step : Nat) (fill : Bool) : List Bool:=(List.range s.length).map fun k => if up = true then (if k < step then fill else s.getD (k - step) false) else if k + step < s.length then s.getD (k + step) false else fill
def shiftB (up fill : Bool) : List Bool -> Nat -> List Bool -> List Bool
 | [],_,s => s
 | c :: cs,i,s => shiftB up fill cs (i + 1) (muxB c (fromB up s (2 ^ i) fill) s)
def binB (op : Int) (X Y : List Bool) : List Bool :=
 if op = 3 then List.zipWith (fun x y => x && y) X Y
 else if op = 4 then List.zipWith (fun x y => x || y) X Y
 else if op = 5 then List.zipWith (fun x y => x != y) X Y
 else if op = 6 then addB X Y false
 else if op = 7 then addB X (Y.map not) true
 else if op = 8 then mulB X Y 0 (List.replicate X.length false)
 else if op = 9 then (divB X (Y ++ [false]) X.length (List.replicate X.length false) (List.replicate X.length false)).1
 else if op = 10 then (divB X (Y ++ [false]) X.length (List.replicate X.length false) (List.replicate X.length false)).2
 else if op = 11 then shiftB true false Y 0 X
 else if op = 12 then shiftB false false Y 0 X
 else if op = 13 then shiftB false (X.getD (X.length - 1) false) Y 0 X
 else Y ++ X
theorem lit_getD {w : List Bool} {xs : List Int} {k : Nat} (hk : k < xs.length) : z08 w (xs.getD k 0) = (xs.map (z08 w)).getD k false:=by
 rw [List.getD_eq_getElem?_getD,List.getD_eq_getElem?_getD,List.getElem?_map,List.getElem?_eq_getElem hk]; rfl
theorem marks_off {n : N} (h : z0q n = true) (k : Nat) : ∀ m ∈ List.replicate k (-1 : Int),z07 n m = true:=fun m hm => by rw [List.eq_of_mem_replicate hm]; exact z1j (one_mark9 h)
theorem lits_off {n : N} {w : List Bool} (h : z0q n = true) (hw : z21 n w) (k : Nat) : (List.replicate k (-1 : Int)).map (z08 w) = List.replicate k false:=by rw [List.map_replicate,off_lit h hw]
theorem marks_neg {n : N} {xs : List Int} (h : ∀ x ∈ xs,z07 n x = true) : ∀ m ∈ xs.map Neg.neg,z07 n m = true:=fun m hm => by
 obtain ⟨x,hx,rfl⟩:=List.mem_map.1 hm; exact z1j (h x hx)
theorem lits_neg {n : N} {w : List Bool} {xs : List Int} (h : ∀ x ∈ xs,z07 n x = true) (hw : z21 n w) : (xs.map Neg.neg).map (z08 w) = (xs.map (z08 w)).map not:=by
 rw [List.map_map,List.map_map]; exact List.map_congr_left fun x hx => z11 (hw.sig (h x hx))
theorem all_muxes {w : List Bool} {c : Int} (xs ys : List Int) (Φ : List Int -> N -> Prop) (n : N) (hc : z07 n c = true) (hl : xs.length = ys.length) (h0 : z0q n = true) (hx : ∀ x ∈ xs,z07 n x = true) (hy : ∀ y ∈ ys,z07 n y = true)
  (h : ∀ ms n',Ext n n' -> ms.length = xs.length -> (∀ m ∈ ms,z07 n' m = true) -> (z21 n' w -> ms.map (z08 w) = muxB (z08 w c) (xs.map (z08 w)) (ys.map (z08 w))) -> Φ ms n') : (z0v (muxP c) xs ys).all w Φ n:=by
 refine all_each (w:=w) (op:=fun x y => if z08 w c then x else y) (n0:=n) (fun Ψ n' x y e mx my k => all_mux (e.has hc) mx my k) xs ys Φ n hl (.refl h0) hx hy fun ms n' e l m v => h ms n' e l m fun hw => ?_
 rw [v hw]; unfold muxB; rw [List.zipWith_map]
theorem all_row {w : List Bool} {xs : List Int} {i : Nat} {y : Int} (Φ : List Int -> N -> Prop) (n : N) (hi : i <= xs.length) (h0 : z0q n = true) (hx : ∀ x ∈ xs,z07 n x = true) (hy : z07 n y = true)
  (h : ∀ ms n',Ext n n' -> ms.length = xs.length -> (∀ m ∈ ms,z07 n' m = true) -> (z21 n' w -> ms.map (z08 w) = rowB (xs.map (z08 w)) i (z08 w y)) -> Φ ms n') : (rowP xs i y).all w Φ n:=by
 refine z1f _ _ _ (all_map (w:=w) (f:=andP y) (op:=fun b => b && z08 w y) (n0:=n) (fun Ψ n' x e mx k => ⟨⟨mx,e.has hy⟩,k⟩) _ _ n (.refl h0) (fun z hz => hx z (List.mem_of_mem_take hz)) fun ms n1 e1 l1 m1 v1 => ?_); refine h _ n1 e1 (by rw [List.length_append,l1,List.length_replicate,List.length_take]; omega) (fun z hz => ?_) fun hw => ?_
 ·
  rcases List.mem_append.1 hz with hz | hz
  · exact marks_off e1.ok i z hz
  · exact m1 z hz
 · rw [List.map_append,lits_off e1.ok hw,v1 hw]; unfold rowB; rw [List.map_take,List.length_map]
theorem all_mul {w : List Bool} {xs : List Int} : ∀ (ys : List Int) (i : Nat) (s : List Int) (Φ : List Int -> N -> Prop) (n : N),i + ys.length <= xs.length -> z0q n = true -> (∀ x ∈ xs,z07 n x = true) -> (∀ y ∈ ys,z07 n y = true) -> (∀ m ∈ s,z07 n m = true) -> s.length = xs.length →
  (∀ ms n',Ext n n' -> ms.length = xs.length -> (∀ m ∈ ms,z07 n' m = true) -> (z21 n' w -> ms.map (z08 w) = mulB (xs.map (z08 w)) (ys.map (z08 w)) i (s.map (z08 w))) -> Φ ms n') -> (mulP xs ys i s).all w Φ n
 | [],_,s,Φ,n,_,h0,_,_,hs,hl,h => h s n (.refl h0) hl hs fun _ => rfl
 | y :: ys,i,s,Φ,n,hi,h0,hx,hy,hs,hl,h => by
  rw [List.length_cons] at hi; refine z1f _ _ _ (all_row _ n (by omega) h0 hx (hy _ (.head _)) fun row n1 e1 l1 m1 v1 => z1f _ _ _ (all_sum _ _ _ _ n1 (by rw [hl,l1]) e1.ok (fun z hz => e1.has (hs z hz)) m1 (z1j (one_mark9 e1.ok)) fun s' n2 e2 l2 m2 v2 => ?_)); have e12:=e1.trans e2; refine all_mul ys (i + 1) s' Φ n2 (by omega) e2.ok (fun z hz => e12.has (hx z hz)) (fun z hz => e12.has (hy z (.tail _ hz))) m2 (by rw [l2,hl]) fun ms n3 e3 l3 m3 v3 => h ms n3 (e12.trans e3) l3 m3 fun hw => ?_
  have w2:=e3.obeys hw; have w1:=e2.obeys w2; rw [v3 hw,v2 w2,v1 w1,off_lit e1.ok w1]
  rfl
theorem all_div {w : List Bool} {xs wide : List Int} (hwl : wide.length = xs.length + 1) : ∀ (k : Nat) (q r : List Int) (Φ : List Int × List Int -> N -> Prop) (n : N),k <= xs.length -> z0q n = true -> (∀ x ∈ xs,z07 n x = true) -> (∀ x ∈ wide,z07 n x = true) -> (∀ m ∈ q,z07 n m = true) -> (∀ m ∈ r,z07 n m = true) -> q.length = xs.length -> r.length = xs.length →
  (∀ z n',Ext n n' -> z.1.length = xs.length -> z.2.length = xs.length -> (∀ m ∈ z.1,z07 n' m = true) -> (∀ m ∈ z.2,z07 n' m = true) -> (z21 n' w -> (z.1.map (z08 w),z.2.map (z08 w)) = divB (xs.map (z08 w)) (wide.map (z08 w)) k (q.map (z08 w)) (r.map (z08 w))) -> Φ z n') -> (divP xs wide k q r).all w Φ n
 | 0,q,r,Φ,n,_,h0,_,_,hq,hr,hql,hrl,h => h (q,r) n (.refl h0) hql hrl hq hr fun _ => rfl
 | k + 1,q,r,Φ,n,hk,h0,hx,hw,hq,hr,hql,hrl,h => by
  have ht : ∀ z ∈ xs.getD k 0 :: r,z07 n z = true:=fun z hz => by
   rcases List.mem_cons.1 hz with rfl | hz
   · exact getD_inP (B:=fun z => z07 n z = true) hx (by omega)
   · exact hr z hz
  have htl : (xs.getD k 0 :: r).length = wide.length:=by rw [List.length_cons,hrl,hwl]
  have htm : (xs.getD k 0 :: r).map (z08 w) = (xs.map (z08 w)).getD k false :: r.map (z08 w):=by rw [List.map_cons,lit_getD (by omega)]
  refine z1f _ _ _ (all_less _ _ _ _ n htl h0 ht hw (z1j (one_mark9 h0)) fun l n1 e1 m1 v1 => z1f _ _ _ (all_sum _ _ _ _ n1 (by rw [htl,List.length_map]) e1.ok (fun z hz => e1.has (ht z hz)) (fun z hz => e1.has (marks_neg hw z hz)) (one_mark9 e1.ok) fun u n2 e2 l2 m2 v2 => z1f _ _ _ (all_muxes _ _ _ n2 (e2.has m1) ?_ e2.ok (fun z hz => e2.has (e1.has (ht z (List.mem_of_mem_take hz)))) (fun z hz => m2 z (List.mem_of_mem_take hz)) fun r' n3 e3 l3 m3 v3 => ?_)))
  · rw [List.length_take,List.length_take,l2]
  have e13:=e1.trans (e2.trans e3); refine all_div hwl k _ r' Φ n3 (by omega) e3.ok (fun z hz => e13.has (hx z hz)) (fun z hz => e13.has (hw z hz)) (fun z hz => ?_) m3 (by rw [List.length_set]; exact hql) ?_ fun z n4 e4 a4 b4 c4 d4 v4 => h z n4 (e13.trans e4) a4 b4 c4 d4 fun hw4 => ?_
  ·
   rcases List.mem_or_eq_of_mem_set hz with hz | hz
   · exact e13.has (hq z hz)
   · rw [hz]; exact z1j (e3.has (e2.has m1))
  · rw [l3,List.length_take,List.length_cons,hrl]; omega
  ·
   have w3:=e4.obeys hw4; have w2:=e3.obeys w3; have w1:=e2.obeys w2; have w0:=e1.obeys w1; have hl1 : z08 w l = lessB ((xs.map (z08 w)).getD k false :: r.map (z08 w)) (wide.map (z08 w)) false:=by rw [v1 w1,htm,off_lit h0 w0]
   rw [v4 hw4,v3 w3,List.map_take,List.map_take,v2 w2,htm,lits_neg hw w0,List.map_set,z11 (w1.sig m1),hl1,z24 w1.one]; rw [divB_succ,List.length_map]
theorem lits_from {w : List Bool} {up : Bool} {s : List Int} {step : Nat} {fill : Int} : (fromL up s step fill).map (z08 w) = fromB up (s.map (z08 w)) step (z08 w fill):=by
 unfold fromL fromB; rw [List.map_map,List.length_map]; refine List.map_congr_left fun k hk => ?_
 rw [List.mem_range] at hk
 show z08 w (if up = true then _ else _) = _
 split
 ·
  split
  · rfl
  · exact lit_getD (Nat.lt_of_le_of_lt (Nat.sub_le _ _) hk)
 ·
  split
  · exact lit_getD (by assumption)
  · rfl
theorem marks_from {n : N} {up : Bool} {s : List Int} {step : Nat} {fill : Int} (hs : ∀ x ∈ s,z07 n x = true) (hf : z07 n fill = true) : ∀ z ∈ fromL up s step fill,z07 n z = true:=fun z hz => by
 unfold fromL at hz; obtain ⟨k,hk,rfl⟩:=List.mem_map.1 hz; rw [List.mem_range] at hk; have hg : ∀ j,j < s.length -> z07 n (s.getD j 0) = true:=fun j hj => getD_inP (B:=fun z => z07 n z = true) hs hj
 split
 ·
  split
  · exact hf
  · exact hg _ (Nat.lt_of_le_of_lt (Nat.sub_le _ _) hk)
 ·
  split
  · exact hg _ (by assumption)
  · exact hf
theorem all_shift {w : List Bool} {up : Bool} {fill : Int} : ∀ (cs : List Int) (i : Nat) (s : List Int) (Φ : List Int -> N -> Prop) (n : N),z0q n = true -> z07 n fill = true -> (∀ c ∈ cs,z07 n c = true) -> (∀ m ∈ s,z07 n m = true) →
  (∀ ms n',Ext n n' -> ms.length = s.length -> (∀ m ∈ ms,z07 n' m = true) -> (z21 n' w -> ms.map (z08 w) = shiftB up (z08 w fill) (cs.map (z08 w)) i (s.map (z08 w))) -> Φ ms n') -> (z0z up fill cs i s).all w Φ n
 | [],_,s,Φ,n,h0,_,_,hs,h => h s n (.refl h0) rfl hs fun _ => rfl
 | c :: cs,i,s,Φ,n,h0,hf,hc,hs,h => by
  refine z1f _ _ _ (all_muxes _ _ _ n (hc _ (.head _)) (z2j _ _ _ _) h0 (marks_from hs hf) hs fun s' n1 e1 l1 m1 v1 => ?_); rw [z2j] at l1; refine all_shift cs (i + 1) s' Φ n1 e1.ok (e1.has hf) (fun z hz => e1.has (hc z (.tail _ hz))) m1 fun ms n2 e2 l2 m2 v2 => h ms n2 (e1.trans e2) (by rw [l2,l1]) m2 fun hw => ?_
  rw [v2 hw,v1 (e2.obeys hw),lits_from]
  rfl
def lenV (op : Int) (a b : Nat) : Nat:=if op = 14 then b + a else a
set_option maxHeartbeats 2000000 in
theorem bin_all {op : Int} {w : List Bool} {n : N} {xs ys : List Int} (h0 : z0q n = true) (hx : ∀ x ∈ xs,z07 n x = true) (hy : ∀ y ∈ ys,z07 n y = true) (hl0 : 1 <= xs.length) (hl : op ≠ 14 -> xs.length = ys.length) (ho : opBin op = true) :
  (binP op xs ys).all w (fun ms n' => ms.length = lenV op xs.length ys.length /\ (∀ m ∈ ms,z07 n' m = true) /\ (z21 n' w -> ms.map (z08 w) = binB op (xs.map (z08 w)) (ys.map (z08 w)))) n:=by
 unfold opBin at ho; simp only [Bool.and_eq_true,decide_eq_true_eq] at ho; unfold binP; have off1:=z1j (one_mark9 h0); have pad : z07 n (-1) = true:=off1; have hwd : ∀ y ∈ ys ++ [-1],z07 n y = true:=fun z hz => by
  rcases List.mem_append.1 hz with hz | hz
  · exact hy z hz
  · rw [List.mem_singleton.1 hz]; exact off1
 have hdiv : op ≠ 14 -> ∀ Φ : List Int × List Int -> N -> Prop,(∀ z n',Ext n n' -> z.1.length = xs.length -> z.2.length = xs.length -> (∀ m ∈ z.1,z07 n' m = true) -> (∀ m ∈ z.2,z07 n' m = true) -> (z21 n' w -> (z.1.map (z08 w),z.2.map (z08 w)) = divB (xs.map (z08 w)) (ys.map (z08 w) ++ [false]) xs.length (List.replicate xs.length false) (List.replicate xs.length false)) -> Φ z n') →
   (divP xs (ys ++ [-1]) xs.length (List.replicate xs.length (-1)) (List.replicate xs.length (-1))).all w Φ n:=fun h14 Φ h =>
  all_div (by rw [List.length_append,hl h14]; rfl) xs.length _ _ Φ n (Nat.le_refl _) h0 hx hwd (marks_off h0 _) (marks_off h0 _) List.length_replicate List.length_replicate fun z n' e a b c d v => h z n' e a b c d fun hw => by
   have w0:=e.obeys hw; rw [v hw,lits_off h0 w0,List.map_append,List.map_cons,List.map_nil,off_lit h0 w0]
 split
 ·
  rename_i e; subst e
  refine all_each (w:=w) (f:=fun x y => .and x y .ret) (op:=fun x y => x && y) (n0:=n) (fun Ψ n' x y e mx my k => ⟨⟨mx,my⟩,k⟩) xs ys _ n (hl (by decide)) (.refl h0) hx hy fun ms n' e l m v => ⟨l,m,fun hw => ?_⟩
  rw [v hw]; show _ = List.zipWith _ _ _; rw [List.zipWith_map]
 split
 ·
  rename_i e; subst e
  refine all_each (w:=w) (f:=orP) (op:=fun x y => x || y) (n0:=n) (fun Ψ n' x y e mx my k => all_or mx my k) xs ys _ n (hl (by decide)) (.refl h0) hx hy fun ms n' e l m v => ⟨l,m,fun hw => ?_⟩
  rw [v hw]; show _ = List.zipWith _ _ _; rw [List.zipWith_map]
 split
 ·
  rename_i e; subst e
  refine all_each (w:=w) (f:=fun x y => .xor x y .ret) (op:=fun x y => x != y) (n0:=n) (fun Ψ n' x y e mx my k => ⟨⟨mx,my⟩,k⟩) xs ys _ n (hl (by decide)) (.refl h0) hx hy fun ms n' e l m v => ⟨l,m,fun hw => ?_⟩
  rw [v hw]; show _ = List.zipWith _ _ _; rw [List.zipWith_map]
 split
 ·
  rename_i e; subst e
  refine all_sum xs ys (-1) _ n (hl (by decide)) h0 hx hy off1 fun ms n' e l m v => ⟨l,m,fun hw => ?_⟩
  rw [v hw,off_lit e.ok hw]; rfl
 split
 ·
  rename_i e; subst e
  refine all_sum xs _ 1 _ n (by rw [List.length_map]; exact hl (by decide)) h0 hx (marks_neg hy) (one_mark9 h0) fun ms n' e l m v => ⟨l,m,fun hw => ?_⟩
  rw [v hw,z24 hw.one,lits_neg hy (e.obeys hw)]; rfl
 split
 ·
  rename_i e; subst e
  have h9:=hl (by decide); refine all_mul ys 0 _ _ n (by omega) h0 hx hy (marks_off h0 _) List.length_replicate fun ms n' e l m v => ⟨l,m,fun hw => ?_⟩
  rw [v hw,lits_off h0 (e.obeys hw)]; show _ = mulB _ _ 0 _; rw [List.length_map]
 split
 ·
  rename_i e; subst e
  refine z1f _ _ _ (hdiv (by decide) _ fun z n' e a b c d v => ⟨a,c,fun hw => ?_⟩)
  show _ = (divB _ _ _ _ _).1
  rw [List.length_map,<- v hw]
 split
 ·
  rename_i e; subst e
  refine z1f _ _ _ (hdiv (by decide) _ fun z n' e a b c d v => ⟨b,d,fun hw => ?_⟩)
  show _ = (divB _ _ _ _ _).2
  rw [List.length_map,<- v hw]
 split
 ·
  rename_i e; subst e
  refine all_shift ys 0 xs _ n h0 off1 hy hx fun ms n' e l m v => ⟨l,m,fun hw => ?_⟩
  rw [v hw,off_lit e.ok hw]; rfl
 split
 ·
  rename_i e; subst e
  refine all_shift ys 0 xs _ n h0 off1 hy hx fun ms n' e l m v => ⟨l,m,fun hw => ?_⟩
  rw [v hw,off_lit e.ok hw]; rfl
 split
 ·
  rename_i e; subst e
  refine all_shift ys 0 xs _ n h0 (getD_inP (B:=fun z => z07 n z = true) hx (by omega)) hy hx fun ms n' e l m v => ⟨l,m,fun hw => ?_⟩
  rw [v hw,lit_getD (by omega)]; show _ = shiftB _ (List.getD _ _ _) _ _ _; rw [List.length_map]
 ·
  have e : op = 14:=by omega
  subst e; refine ⟨by rw [List.length_append]; rfl,fun m hm => ?_,fun hw => ?_⟩
  ·
   rcases List.mem_append.1 hm with hm | hm
   · exact hy m hm
   · exact hx m hm
  · rw [List.map_append]; rfl
def Turned {α : Type} : PG α -> PG α -> Prop
 | .ret a,.ret b => a = b
 | .and x y k,.and x' y' k' => (x' = x /\ y' = y \/ x' = y /\ y' = x) /\ ∀ m,Turned (k m) (k' m)
 | .xor x y k,.xor x' y' k' => (x' = x /\ y' = y \/ x' = y /\ y' = x) /\ ∀ m,Turned (k m) (k' m)
 | _,_ => False
theorem turned_bind {α β : Type} {f g : α -> PG β} (hf : ∀ a,Turned (f a) (g a)) : ∀ (p q : PG α),Turned p q -> Turned (p.bind f) (q.bind g)
 | .ret a,.ret b,h => by
  have e : a = b:=h; rw [e]; exact hf b
 | .and _ _ k,.and _ _ k',h => ⟨h.1,fun m => turned_bind hf (k m) (k' m) (h.2 m)⟩
 | .xor _ _ k,.xor _ _ k',h => ⟨h.1,fun m => turned_bind hf (k m) (k' m) (h.2 m)⟩
 | .ret _,.and _ _ _,h => h.elim
 | .ret _,.xor _ _ _,h => h.elim
 | .and _ _ _,.ret _,h => h.elim
 | .and _ _ _,.xor _ _ _,h => h.elim
 | .xor _ _ _,.ret _,h => h.elim
 | .xor _ _ _,.and _ _ _,h => h.elim
theorem turned_each {f : Int -> Int -> PG Int} (hf : ∀ x y,Turned (f x y) (f y x)) : ∀ xs ys : List Int,Turned (z0v f xs ys) (z0v f ys xs)
 | [],[] => rfl
 | [],_ :: _ => rfl
 | _ :: _,[] => rfl
 | x :: xs,y :: ys => turned_bind (fun m => turned_bind (f:=fun l => .ret (m :: l)) (g:=fun l => .ret (m :: l)) (fun _ => rfl) _ _ (turned_each hf xs ys)) _ _ (hf x y)
theorem turned_same {α : Type} : ∀ p : PG α,Turned p p
 | .ret _ => rfl
 | .and _ _ k => ⟨.inl ⟨rfl,rfl⟩,fun m => turned_same (k m)⟩
 | .xor _ _ k => ⟨.inl ⟨rfl,rfl⟩,fun m => turned_same (k m)⟩
theorem turned_sum : ∀ (xs ys : List Int) (c : Int),Turned (sumP xs ys c) (sumP ys xs c)
 | [],[],_ => rfl
 | [],_ :: _,_ => rfl
 | _ :: _,[],_ => rfl
 | x :: xs,y :: ys,c => ⟨.inr ⟨rfl,rfl⟩,fun d => ⟨.inl ⟨rfl,rfl⟩,fun s => ⟨.inr ⟨rfl,rfl⟩,fun p => ⟨.inl ⟨rfl,rfl⟩,fun q =>
   turned_bind (fun c' => turned_bind (f:=fun l => .ret (s :: l)) (g:=fun l => .ret (s :: l)) (fun _ => rfl) _ _ (turned_sum xs ys c')) _ _ (turned_same _)⟩⟩⟩⟩
theorem turned_bin {op : Int} (h : op = 6 \/ op = 3 \/ op = 4 \/ op = 5) (xs ys : List Int) : Turned (binP op xs ys) (binP op ys xs):=by
 rcases h with rfl | rfl | rfl | rfl
 · exact turned_sum xs ys (-1)
 · exact turned_each (f:=fun x y => .and x y .ret) (fun x y => ⟨.inr ⟨rfl,rfl⟩,fun _ => rfl⟩) xs ys
 · exact turned_each (f:=orP) (fun x y => ⟨.inr ⟨rfl,rfl⟩,fun _ => rfl⟩) xs ys
 · exact turned_each (f:=fun x y => .xor x y .ret) (fun x y => ⟨.inr ⟨rfl,rfl⟩,fun _ => rfl⟩) xs ys
theorem and1_both {y : N} {a b a' b' : Int} {m : Int} (hm : m ≠ 0) (e : and1 y a b = (y,m)) (h : a' = a /\ b' = b \/ a' = b /\ b' = a) : and1 y a' b' = (y,m):=by
 rcases h with ⟨rfl,rfl⟩ | ⟨rfl,rfl⟩
 · exact e
 ·
  have:=and1_turn (n:=y) (a:=b') (b:=a') (by rw [e]; exact hm); rw [e] at this; exact this
theorem xor1_both {y : N} {a b a' b' : Int} {m : Int} (hm : m ≠ 0) (e : xor1 y a b = (y,m)) (h : a' = a /\ b' = b \/ a' = b /\ b' = a) : xor1 y a' b' = (y,m):=by
 rcases h with ⟨rfl,rfl⟩ | ⟨rfl,rfl⟩
 · exact e
 ·
  have:=xor1_turn (n:=y) (a:=b') (b:=a') (by rw [e]; exact hm); rw [e] at this; exact this
theorem run_turn {α : Type} {w : List Bool} {Φ : α -> N -> Prop} : ∀ (p p' : PG α) (n y : N),Turned p p' -> p.all w Φ n -> z0q n = true -> (run opsP p ⟨n,none⟩).1.e = none -> Ext (run opsP p ⟨n,none⟩).1.n y -> run opsP p' ⟨y,none⟩ = (⟨y,none⟩,(run opsP p ⟨n,none⟩).2)
 | .ret a,.ret b,n,y,ht,_,_,_,_ => by
  have e : a = b:=ht; rw [e]; rfl
 | .and a b k,.and a' b' k',n,y,ht,h,hn,he,hy => by
  obtain ⟨⟨hx,hy'⟩,hk⟩:=h
  by_cases hs : (z16 ⟨n,none⟩ (and1 n a b)).1.e = none
  ·
   obtain ⟨hz,e⟩:=step_none hs; obtain ⟨hg,hv⟩:=and1_says hn hx hy' hz; have e1 : run opsP (.and a b k) ⟨n,none⟩ = run opsP (k (and1 n a b).2) ⟨(and1 n a b).1,none⟩:=by
    show run opsP (k (z16 ⟨n,none⟩ (and1 n a b)).2) (z16 ⟨n,none⟩ (and1 n a b)).1 = _
    rw [e]
   rw [e1] at he hy ⊢; have hk':=hk _ _ hg.to hg.mark (hv w); have h2:=((all_run (k _) _ hk' hg.ok he).2).trans hy; obtain ⟨t,htl⟩:=h2.ext; have e2:=and1_both hz (and1_in hz h2.ins htl) ht.1; have e3 : run opsP (.and a' b' k') ⟨y,none⟩ = run opsP (k' (and1 n a b).2) ⟨y,none⟩:=by
    show run opsP (k' (z16 ⟨y,none⟩ (and1 y a' b')).2) (z16 ⟨y,none⟩ (and1 y a' b')).1 = _
    rw [e2]; unfold z16; rw [if_neg (by simp),if_neg hz]
   rw [e3]; exact run_turn (k _) (k' _) _ y (ht.2 _) hk' hg.ok he hy
  · exact absurd he (run_failP (k (z16 ⟨n,none⟩ (and1 n a b)).2) _ hs)
 | .xor a b k,.xor a' b' k',n,y,ht,h,hn,he,hy => by
  obtain ⟨⟨hx,hy'⟩,hk⟩:=h
  by_cases hs : (z16 ⟨n,none⟩ (xor1 n a b)).1.e = none
  ·
   obtain ⟨hz,e⟩:=step_none hs; obtain ⟨hg,hv⟩:=xor1_says hn hx hy' hz; have e1 : run opsP (.xor a b k) ⟨n,none⟩ = run opsP (k (xor1 n a b).2) ⟨(xor1 n a b).1,none⟩:=by
    show run opsP (k (z16 ⟨n,none⟩ (xor1 n a b)).2) (z16 ⟨n,none⟩ (xor1 n a b)).1 = _
    rw [e]
   rw [e1] at he hy ⊢; have hk':=hk _ _ hg.to hg.mark (hv w); have h2:=((all_run (k _) _ hk' hg.ok he).2).trans hy; obtain ⟨t,htl⟩:=h2.ext; have e2:=xor1_both hz (xor1_in hz h2.ins htl) ht.1; have e3 : run opsP (.xor a' b' k') ⟨y,none⟩ = run opsP (k' (xor1 n a b).2) ⟨y,none⟩:=by
    show run opsP (k' (z16 ⟨y,none⟩ (xor1 y a' b')).2) (z16 ⟨y,none⟩ (xor1 y a' b')).1 = _
    rw [e2]; unfold z16; rw [if_neg (by simp),if_neg hz]
   rw [e3]; exact run_turn (k _) (k' _) _ y (ht.2 _) hk' hg.ok he hy
  · exact absurd he (run_failP (k (z16 ⟨n,none⟩ (xor1 n a b)).2) _ hs)
 | .ret _,.and _ _ _,_,_,h,_,_,_,_ => h.elim
 | .ret _,.xor _ _ _,_,_,h,_,_,_,_ => h.elim
 | .and _ _ _,.ret _,_,_,h,_,_,_,_ => h.elim
 | .and _ _ _,.xor _ _ _,_,_,h,_,_,_,_ => h.elim
 | .xor _ _ _,.ret _,_,_,h,_,_,_,_ => h.elim
 | .xor _ _ _,.and _ _ _,_,_,h,_,_,_,_ => h.elim
structure GrBin (op : Int) (n : N) (xs ys : List Int) (r : N × List Int) : Prop where
 ok : z0q n = true
 ext : Ext n r.1
 len : r.2.length = lenV op xs.length ys.length
 mks : ∀ m ∈ r.2,z07 r.1 m = true
 lx : 1 <= xs.length /\ xs.length <= 4
 ly : 1 <= ys.length /\ ys.length <= 4
 hop : 3 <= op /\ op <= 14
 lxy : op ≠ 14 -> xs.length = ys.length
 l14 : op = 14 -> xs.length + ys.length <= 4
 say : ∀ ins : List Bool,(ins.length : Int) = n.ins -> r.2.map (z08 (z19 r.1 ins)) = binB op (xs.map (z08 (z19 r.1 ins))) (ys.map (z08 (z19 r.1 ins)))
 again : pickN (z0q r.1) (z0t r.1 op xs ys) = r
 turn : op = 6 \/ op = 3 \/ op = 4 \/ op = 5 -> pickN (z0q r.1) (z0t r.1 op ys xs) = r
theorem bitsBin_law {n : N} {op : Int} {xs ys : List Int} {r : N × List Int} (hr : r = pickN (z0q n) (z0t n op xs ys)) (h : r.2 ≠ []) : GrBin op n xs ys r:=by
 obtain ⟨hok,hb,he,hv⟩:=bitsOk_yes hr h; simp only [Bool.and_eq_true] at hb; obtain ⟨⟨⟨gx,gy⟩,ho⟩,hlb⟩:=hb; obtain ⟨l1,l2,m1⟩:=z1h.1 gx; obtain ⟨l3,l4,m2⟩:=z1h.1 gy; have hl : op ≠ 14 -> xs.length = ys.length:=fun h14 => by unfold lenBin at hlb; rw [if_neg h14] at hlb; simpa using hlb
 have BA:=fun w => bin_all (w:=w) hok m1 m2 l1 hl ho
 have A:=fun w => all_run (w:=w) (binP op xs ys) n (BA w) hok he
 have hx:=(A []).2; have gxx : z1m r.1 xs = true:=z1h.2 ⟨l1,l2,fun m hm => by rw [hv]; exact hx.has (m1 m hm)⟩; have gyy : z1m r.1 ys = true:=z1h.2 ⟨l3,l4,fun m hm => by rw [hv]; exact hx.has (m2 m hm)⟩; have hok' : z0q r.1 = true:=by rw [hv]; exact hx.ok
 have hag : ∀ p' : PG (List Int),Turned (binP op xs ys) p' -> bitsOut (run opsP p' ⟨r.1,none⟩) = r:=fun p' ht => by
  have:=run_turn (binP op xs ys) p' n r.1 ht (BA []) hok he (by rw [hv]; exact .refl hx.ok); rw [this,hv]; rfl
 refine ⟨hok,by rw [hv]; exact hx,by rw [hv]; exact (A []).1.1,by rw [hv]; exact (A []).1.2.1,⟨l1,l2⟩,⟨l3,l4⟩,by unfold opBin at ho; simpa using ho,hl,fun h14 => by unfold lenBin at hlb; rw [if_pos h14] at hlb; simpa using hlb,fun ins hi => ?_,?_,fun h4 => ?_⟩
 ·
  rw [hv]; have hob:=(obeys_vals hx.ok (by rw [hx.ins]; exact hi)).1; exact (A (z19 (run opsP (binP op xs ys) ⟨n,none⟩).1.n ins)).1.2.2 hob
 ·
  rw [hok']
  show z0t r.1 op xs ys = r
  unfold z0t bitsOk; rw [gxx,gyy,ho,hlb]; exact hag _ (turned_same _)
 ·
  rw [hok']
  show z0t r.1 op ys xs = r
  have hlb' : lenBin op ys xs = true:=by unfold lenBin; rw [if_neg (by omega)]; exact decide_eq_true (hl (by omega)).symm
  unfold z0t bitsOk; rw [gxx,gyy,ho,hlb']; exact hag _ (turned_bin h4 xs ys)
def toB : Nat -> Nat -> List Bool
 | 0,_ => []
 | m + 1,n => (n % 2 == 1) :: toB m (n / 2)
def bitsN : List Bool -> Nat
 | [] => 0
 | b :: bs => (if b then 1 else 0) + 2 * bitsN bs
theorem bitsN_B : ∀ l : List Bool,(bitsN l : Int) = bitsB l
 | [] => rfl
 | b :: bs => by rw [bitsB_cons,<- bitsN_B bs]; cases b <;> simp [bitsN]
theorem toB_bits : ∀ l : List Bool,toB l.length (bitsN l) = l
 | [] => rfl
 | b :: bs => by
  show (((if b then 1 else 0) + 2 * bitsN bs) % 2 == 1) :: toB bs.length (((if b then 1 else 0) + 2 * bitsN bs) / 2) = _
  have e : ((if b = true then 1 else 0) + 2 * bitsN bs) / 2 = bitsN bs:=by cases b <;> simp <;> omega
  rw [e,toB_bits bs]
  congr 1
  cases b <;> simp <;> omega
theorem bitsN_lt : ∀ l : List Bool,bitsN l < 2 ^ l.length
 | [] => Nat.one_pos
 | b :: bs => by
  have:=bitsN_lt bs; rw [List.length_cons,Nat.pow_succ]
  cases b <;> simp [bitsN] <;> omega
def rawN (op m p q : Nat) : Nat :=
 if op = 3 then p &&& q else if op = 4 then p ||| q else if op = 5 then p ^^^ q else if op = 6 then p + q else if op = 7 then (p + (18446744073709551616 - q)) % 18446744073709551616
 else if op = 8 then p * q else if op = 9 then (if q = 0 then 2 ^ m - 1 else p / q) else if op = 10 then (if q = 0 then p else p % q) else if op = 11 then p * 2 ^ q else if op = 12 then p / 2 ^ q
 else (if p / 2 ^ (m - 1) % 2 = 1 then p + (4294967296 - 2 ^ m) else p) / 2 ^ q
def rawOk (op m p q : Nat) : Bool:=rawN op m p q % 2 ^ m == bitsN (binB op (toB m p) (toB m q))
def rawAll (op : Nat) : Bool:=(List.range 4).all fun m => (List.range (2 ^ (m + 1))).all fun p => (List.range (2 ^ (m + 1))).all fun q => rawOk op (m + 1) p q
theorem rawAll_ok : ((List.range 11).all fun o => rawAll (o + 3)) = true:=by kernel_rfl
theorem raw_bits {op m p q : Nat} (o0 : 3 <= op) (o1 : op <= 13) (m0 : 1 <= m) (m1 : m <= 4) (hp : p < 2 ^ m) (hq : q < 2 ^ m) : rawN op m p q % 2 ^ m = bitsN (binB op (toB m p) (toB m q)):=by
 have h1:=List.all_eq_true.1 rawAll_ok (op - 3) (List.mem_range.2 (by omega)); have h2:=List.all_eq_true.1 h1 (m - 1) (List.mem_range.2 (by omega)); rw [show op - 3 + 3 = op by omega] at h2; rw [show m - 1 + 1 = m by omega] at h2; have h3:=List.all_eq_true.1 h2 p (List.mem_range.2 hp); have h4:=List.all_eq_true.1 h3 q (List.mem_range.2 hq); exact eq_of_beq h4
def binV (op : Int) (a b : Nat) (p q : Int) : Int:=if op = 14 then p * 2 ^ b + q else ((rawN op.toNat a p.toNat q.toNat % 2 ^ a : Nat) : Int)
theorem bitsB_app : ∀ X Y : List Bool,bitsB (X ++ Y) = bitsB X + 2 ^ X.length * bitsB Y
 | [],Y => by simp [bitsB]
 | x :: X,Y => by
  rw [List.cons_append,bitsB_cons,bitsB_cons,bitsB_app X Y,List.length_cons,Int.pow_succ,Int.mul_add,<- Int.mul_assoc,Int.mul_comm 2 ((2 : Int) ^ X.length)]
  omega
theorem bin_val {op : Int} {X Y : List Bool} (h : 3 <= op /\ op <= 14) (hx : 1 <= X.length /\ X.length <= 4) (hl : op ≠ 14 -> X.length = Y.length) : bitsB (binB op X Y) = binV op X.length Y.length (bitsB X) (bitsB Y):=by
 unfold binV
 by_cases h14 : op = 14
 ·
  subst h14
  show bitsB (Y ++ X) = _
  rw [if_pos rfl,bitsB_app,Int.mul_comm]; omega
 ·
  have e:=hl h14; rw [if_neg h14,<- bitsN_B,<- bitsN_B X,<- bitsN_B Y]; have hy:=bitsN_lt Y; rw [<- e] at hy; have:=raw_bits (op:=op.toNat) (by omega) (by omega) hx.1 hx.2 (bitsN_lt X) hy; rw [Int.toNat_natCast,Int.toNat_natCast,this,toB_bits X,e,toB_bits Y,show ((op.toNat : Nat) : Int) = op by omega]
theorem four_of {m : Nat} (h : 1 <= m) (h' : m <= 4) : m = 1 \/ m = 2 \/ m = 3 \/ m = 4:=by omega
theorem two_pow_cases {m : Nat} {n : Int} (h : 1 <= m) (h' : m <= 4) (hn : n < 2 ^ m) : (m = 1 /\ n < 2) \/ (m = 2 /\ n < 4) \/ (m = 3 /\ n < 8) \/ (m = 4 /\ n < 16):=by
 rcases four_of h h' with rfl | rfl | rfl | rfl <;> simp at hn ⊢ <;> omega
set_option maxHeartbeats 2000000 in
theorem vecOk_any (m : Nat) (n : Int) (w : World) (h : 1 <= m) (h' : m <= 4) (n0 : 0 <= n) (hn : n < 2 ^ m) :
  Calls Tryz.prog 26 #[.agg #[.int .i64 (m : Int),.int .i64 n]] w (RetB w true):=by
 have hc:=two_pow_cases h h' hn; clear h h' hn; have hal : Below w.heap.size w (w.alloc (.cells #[.int .i64 (m : Int),.int .i64 n] 24)):=(Below.refl _ _).alloc (Nat.le_refl _) _; have HAL:=zH hal; clear hal
 rcases hc with ⟨rfl,hn⟩ | ⟨rfl,hn⟩ | ⟨rfl,hn⟩ | ⟨rfl,hn⟩
 all_goals
  simp only [Int.cast_ofNat_Int] at HAL ⊢
  go_enter Tryz.func26,Tryz.ntmps26
  go_wp2
  go_quiet (fail)
  go_wp2
  go_ret
  exact ⟨rfl,z02 HAL.out _⟩
theorem z1c (m : Nat) (n : Int) (w : World) (n0 : 0 <= n) (hn : n < 16) :
  Calls Tryz.prog 53 #[.agg #[.int .i64 (m : Int),.int .i64 n]] w fun e w' => e = .returned (.int .u64 n) /\ Below w.heap.size w w':=by
 have hal : Below w.heap.size w (w.alloc (.cells #[.int .i64 (m : Int),.int .i64 n] 24)):=(Below.refl _ _).alloc (Nat.le_refl _) _; have HAL:=zH hal; clear hal
 go_enter Tryz.func53,Tryz.ntmps53
 go_wp2
 go_ret
 exact ⟨rfl,HAL.out⟩
theorem sixteen {n : Int} (h0 : 0 <= n) (h : n < 16) : n = 0 \/ n = 1 \/ n = 2 \/ n = 3 \/ n = 4 \/ n = 5 \/ n = 6 \/ n = 7 \/ n = 8 \/ n = 9 \/ n = 10 \/ n = 11 \/ n = 12 \/ n = 13 \/ n = 14 \/ n = 15:=by omega
def bitV (n : Int) (k : Nat) : Bool:=n.toNat.testBit k
set_option maxHeartbeats 4000000 in
theorem bit_any (n : Int) (k : Nat) (w : World) (h0 : 0 <= n) (hn : n < 16) (hk : k < 4) :
  Calls Tryz.prog 98 #[.int .u64 n,.int .i64 (k : Int)] w fun e w' => e = .returned (.bool (bitV n k)) /\ w = w':=by
 have hk4 : k = 0 \/ k = 1 \/ k = 2 \/ k = 3:=by omega
 rcases hk4 with rfl | rfl | rfl | rfl <;> rcases sixteen h0 hn with rfl | rfl | rfl | rfl | rfl | rfl | rfl | rfl | rfl | rfl | rfl | rfl | rfl | rfl | rfl | rfl
 all_goals
  clear h0 hn hk; simp only [Int.cast_ofNat_Int]
  go_enter Tryz.func98,Tryz.ntmps98
  go_wp2
  go_ret
  exact ⟨rfl,rfl⟩
def Fact.u64B (W : World) (n : Int) : Fact:=.of (fun v x => v = .int .u64 n /\ Below W.heap.size W x) fun _ _ _ ⟨h1,h2⟩ hb => ⟨h1,z09 h2 hb⟩
end Go.Proofs.YtemdmlmcidfodaaGreatDoor
