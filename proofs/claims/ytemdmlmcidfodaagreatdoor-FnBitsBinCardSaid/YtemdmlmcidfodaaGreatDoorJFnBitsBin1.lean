/- The call's own rows of integers. -/
import Derived.Test.YtemdmlmcidfodaaGreatDoorProg
import Derived.Deep.RegionHeld3
import Derived.Handy
import Derived.StillTail
import Derived.Test.YtemdmlmcidfodaaGreatDoorJFnBitsBin0
namespace Go.Proofs.YtemdmlmcidfodaaGreatDoor
open Go Go.RowKit
structure C where
 many : Int
 list : List (List Int)
structure Good (many : Int) (put : List Int) : Prop where
 rng : ∀ l ∈ put,l ≠ 0 /\ -many <= l /\ l <= many
 nodup : (put.map Int.natAbs).Nodup
theorem Good.nil (many : Int) : Good many []:=⟨by simp,by simp⟩
theorem mem_natAbs {put : List Int} {l : Int} : l.natAbs ∈ put.map Int.natAbs ↔ l ∈ put \/ -l ∈ put:=by
 rw [List.mem_map]
 constructor
 ·
  rintro ⟨x,hx,he⟩; have : x = l \/ x = -l:=by omega
  rcases this with rfl | rfl
  · exact .inl hx
  · exact .inr hx
 ·
  rintro (h | h)
  · exact ⟨l,h,rfl⟩
  · exact ⟨-l,h,by omega⟩
theorem Good.snoc {many : Int} {put : List Int} {l : Int} (h : Good many put) (h0 : l ≠ 0) (h1 : -many <= l) (h2 : l <= many) (h3 : l ∉ put) (h4 : -l ∉ put) : Good many (put ++ [l]):=by
 refine ⟨fun x hx => ?_,?_⟩
 ·
  rcases List.mem_append.1 hx with hx | hx
  · exact h.rng x hx
  · rw [List.mem_singleton.1 hx]; exact ⟨h0,h1,h2⟩
 ·
  rw [List.map_append]; refine List.nodup_append.2 ⟨h.nodup,by simp,fun a ha b hb => ?_⟩; simp only [List.map_cons,List.map_nil,List.mem_singleton] at hb; rintro rfl; rw [hb] at ha
  rcases mem_natAbs.1 ha with h' | h'
  · exact h3 h'
  · exact h4 h'
theorem nodup_bound : ∀ (m : Nat) (l : List Nat),l.Nodup -> (∀ x ∈ l,1 <= x /\ x <= m) -> l.length <= m
 | 0,l,_,h => by
  cases l with
  | nil => simp
  | cons x xs => have:=h x (by simp); omega
 | m + 1,l,hn,h => by
  have h1 : (l.filter (fun x => x != m + 1)).length <= m:=nodup_bound m _ (hn.filter _) (fun x hx => by
   have hx':=List.mem_filter.1 hx; have:=h x hx'.1; have hne : x ≠ m + 1:=by simpa using hx'.2
   omega)
  have h2 : (l.filter (fun x => x == m + 1)).length <= 1:=by
   have : ∀ (l : List Nat),l.Nodup -> (l.filter (fun x => x == m + 1)).length <= 1:=by
    intro l hn
    induction l with
    | nil => simp
    | cons x xs ih =>
     have hx:=List.nodup_cons.1 hn
     by_cases e : x = m + 1
     ·
      subst e; have : xs.filter (fun x => x == m + 1) = []:=List.filter_eq_nil_iff.2 (fun y hy => by
       simp only [beq_iff_eq]; rintro rfl; exact hx.1 hy)
      simp [this]
     ·
      have hf : (x == m + 1) = false:=by simp [e]
      rw [List.filter_cons,hf]; exact ih hx.2
   exact this l hn
  have h3 : l.length = (l.filter (fun x => x == m + 1)).length + (l.filter (fun x => x != m + 1)).length:=by
   clear h hn h1 h2
   induction l with
   | nil => rfl
   | cons x xs ih =>
    by_cases e : x = m + 1
    ·
     have h1 : (x == m + 1) = true:=by simp [e]
     have h2 : (x != m + 1) = false:=by simp [e]
     simp only [List.filter_cons,h1,h2,List.length_cons,if_true]; simp only [Bool.false_eq_true,if_false]
     omega
    ·
     have h1 : (x == m + 1) = false:=by simp [e]
     have h2 : (x != m + 1) = true:=by simp [e]
     simp only [List.filter_cons,h1,h2,List.length_cons,if_true]; simp only [Bool.false_eq_true,if_false]
     omega
  omega
theorem Good.length {many : Int} {put : List Int} (h : Good many put) : put.length <= many.toNat:=by
 have:=nodup_bound many.toNat (put.map Int.natAbs) h.nodup (fun x hx => by
  obtain ⟨l,hl,rfl⟩:=List.mem_map.1 hx; have:=h.rng l hl
  omega)
 simpa using this
theorem Good.apart {many : Int} {put : List Int} (h : Good many put) {l : Int} (h1 : l ∈ put) (h2 : -l ∈ put) : False:=by
 have h0:=(h.rng l h1).1; have:=h.nodup; obtain ⟨i,hi,ei⟩:=List.getElem_of_mem h1; obtain ⟨j,hj,ej⟩:=List.getElem_of_mem h2; have hp:=List.pairwise_iff_getElem.1 this; have hne : i ≠ j:=by
  rintro rfl; rw [ei] at ej; omega
 rcases Nat.lt_or_ge i j with hlt | hge
 · exact hp i j (by simpa using hi) (by simpa using hj) hlt (by simp only [List.getElem_map,ei,ej]; omega)
 · exact hp j i (by simpa using hj) (by simpa using hi) (by omega) (by simp only [List.getElem_map,ei,ej]; omega)
def sg (put : List Int) (m : Int) : Int:=if m ∈ put then 1 else if -m ∈ put then -1 else 0
def lk (put : List Int) : List Int -> Int -> Int -> Option (Int × Int)
 | [],n,f => some (n,f)
 | l :: ls,n,f => if l ∈ put then none else if -l ∈ put then lk put ls n f else lk put ls (n + 1) l
def fd (put : List Int) : List (List Int) -> Int -> Int -> Int -> Int × Int × Int
 | [],_,u,f => (-1,u,f)
 | cl :: cls,k,u,f => match lk put cl 0 0 with
  | none => fd put cls (k + 1) u f
  | some (n,m) => if n = 0 then (k,u,f) else if n = 1 /\ u < 0 then fd put cls (k + 1) k m else fd put cls (k + 1) u f
def un (cs : List (List Int)) : Nat -> List Int -> List Int × Bool
 | 0,put => (put,false)
 | n + 1,put => if 0 <= (fd put cs 0 (-1) 0).1 then (put,true) else if (fd put cs 0 (-1) 0).2.1 < 0 then (put,false) else un cs n (put ++ [(fd put cs 0 (-1) 0).2.2])
theorem lk_free {many : Int} {put : List Int} : ∀ {cl : List Int} {n f n' f' : Int},(∀ l ∈ cl,l ≠ 0 /\ -many <= l /\ l <= many) -> (0 < n -> f ≠ 0 /\ -many <= f /\ f <= many /\ f ∉ put /\ -f ∉ put) -> 0 <= n -> lk put cl n f = some (n',f') -> 0 < n' -> f' ≠ 0 /\ -many <= f' /\ f' <= many /\ f' ∉ put /\ -f' ∉ put
 | [],n,f,n',f',_,hf,_,h,hp => by
  simp only [lk,Option.some.injEq,Prod.mk.injEq] at h; obtain ⟨rfl,rfl⟩:=h; exact hf hp
 | l :: ls,n,f,n',f',hc,hf,h0,h,hp => by
  have hl:=hc l (by simp); have hls : ∀ l ∈ ls,l ≠ 0 /\ -many <= l /\ l <= many:=fun x hx => hc x (by simp [hx])
  simp only [lk] at h
  split at h
  · cases h
  ·
   rename_i h1
   split at h
   · exact lk_free hls hf h0 h hp
   ·
    rename_i h2
    exact lk_free hls (fun _ => ⟨hl.1,hl.2.1,hl.2.2,h1,h2⟩) (by omega) h hp
theorem fd_free {many : Int} {put : List Int} : ∀ {cs : List (List Int)} {k u f : Int},(∀ cl ∈ cs,∀ l ∈ cl,l ≠ 0 /\ -many <= l /\ l <= many) -> (0 <= u -> f ≠ 0 /\ -many <= f /\ f <= many /\ f ∉ put /\ -f ∉ put) -> 0 <= k →
  0 <= (fd put cs k u f).2.1 -> (fd put cs k u f).2.2 ≠ 0 /\ -many <= (fd put cs k u f).2.2 /\ (fd put cs k u f).2.2 <= many /\ (fd put cs k u f).2.2 ∉ put /\ -(fd put cs k u f).2.2 ∉ put
 | [],k,u,f,_,hf,_,h => hf h
 | cl :: cls,k,u,f,hc,hf,hk,h => by
  have hcl:=hc cl (by simp); have hcls : ∀ cl ∈ cls,∀ l ∈ cl,l ≠ 0 /\ -many <= l /\ l <= many:=fun x hx => hc x (by simp [hx])
  simp only [fd] at h ⊢
  cases hlk : lk put cl 0 0 with
  | none =>
   rw [hlk] at h; exact fd_free hcls hf (by omega) h
  | some p =>
   obtain ⟨n,m⟩:=p; rw [hlk] at h; dsimp only at h ⊢
   split at h
   ·
    rename_i hn
    rw [if_pos hn]; exact hf h
   ·
    rename_i hn
    rw [if_neg hn]
    split at h
    ·
     rename_i h1
     rw [if_pos h1]; exact fd_free hcls (fun _ => lk_free hcl (fun h => absurd h (by omega)) (by omega) hlk (by omega)) (by omega) h
    ·
     rename_i h1
     rw [if_neg h1]; exact fd_free hcls hf (by omega) h
theorem Good.next {many : Int} {put : List Int} {cs : List (List Int)} (h : Good many put) (hc : ∀ cl ∈ cs,∀ l ∈ cl,l ≠ 0 /\ -many <= l /\ l <= many) (hu : 0 <= (fd put cs 0 (-1) 0).2.1) : Good many (put ++ [(fd put cs 0 (-1) 0).2.2]):=by
 have:=fd_free hc (fun h => absurd h (by omega)) (Int.le_refl 0) hu; exact h.snoc this.1 this.2.1 this.2.2.1 this.2.2.2.1 this.2.2.2.2
theorem int_info : (Tryz.prog.info? 3).map (fun i => (i.zero,i.size,i.bytes)) = some (some (.int .i64 0),1,8):=by kernel_rfl
theorem bool_info : (Tryz.prog.info? 4).map (fun i => (i.zero,i.size,i.bytes)) = some (some (.bool false),1,1):=by kernel_rfl
theorem sl_ints_of_own {w : World} {F : Nat -> Prop} {base : Nat} {e : TypeId} {A : Option Addr} {n c : Nat} {xs : List Int} (h : w.ownsRow base e 1 (.slice A n c) n (xs.map (Value.int .i64)))
  (hF : ∀ g,base <= g -> g < w.heap.size -> F g) : Lay.int.Sl w F A xs /\ n = xs.length /\ n <= c:=by
 have hn : n = xs.length:=by have:=h.1; simp at this; omega
 refine ⟨.of_own h hn hF fun k x hx => ⟨_,rfl,fun j u hu => ?_⟩,hn,?_⟩
 ·
  match j,hu with
  | 0,hu => simp [Lay.int,Lay.flat,hx]; simpa using hu
 ·
  rcases h.2 with ⟨h1,h2⟩ | ⟨g,cap,cur,h1,_,_,h2,_⟩
  · omega
  · injection h1 with _ _ h3; omega
theorem sl_bools_of_own {w : World} {F : Nat -> Prop} {base : Nat} {e : TypeId} {A : Option Addr} {n c : Nat} {xs : List Bool} (h : w.ownsRow base e 1 (.slice A n c) n (xs.map Value.bool))
  (hF : ∀ g,base <= g -> g < w.heap.size -> F g) : Lay.bool.Sl w F A xs /\ n = xs.length /\ n <= c:=by
 have hn : n = xs.length:=by have:=h.1; simp at this; omega
 refine ⟨.of_own h hn hF fun k x hx => ⟨_,rfl,fun j u hu => ?_⟩,hn,?_⟩
 ·
  match j,hu with
  | 0,hu => simp [Lay.bool,Lay.flat,hx]; simpa using hu
 ·
  rcases h.2 with ⟨h1,h2⟩ | ⟨g,cap,cur,h1,_,_,h2,_⟩
  · omega
  · injection h1 with _ _ h3; omega
theorem take_eq_step {α : Type} {xs ys : List α} {k : Nat} (h1 : k < xs.length) (h2 : k < ys.length) (h : xs.take k = ys.take k) (he : xs[k] = ys[k]) : xs.take (k + 1) = ys.take (k + 1):=by
 rw [List.take_succ_eq_append_getElem h1,List.take_succ_eq_append_getElem h2,h,he]
theorem eq_of_take {α : Type} {xs ys : List α} (hl : xs.length = ys.length) (h : xs.take xs.length = ys.take xs.length) : xs = ys:=by
 rw [List.take_length,hl,List.take_length] at h; exact h
def Src (w : World) (size : Nat) (A : Option Addr) (m : Nat) (xs : List Value) : Prop :=
 xs.length = m * size /\ (0 < m -> ∃ ad,A = some ad /\ ∀ j u,xs[j]? = some u -> w.cell? (ad.add j) = some u)
section
variable {P : Program} (w : World)
theorem run_append_of_nil (base : Nat) (t ty e : TypeId) (i : TypeInfo) (size : Nat) (ht : P.underlying t = some (.slice e)) (hi : P.info? e = some i)
  (v : Value) (n : Nat) (xs : List Value) (hown : w.ownsRow base e size v n xs) (c : Nat) : (Builtin.append_ #[t,t] ty #[v,.slice none 0 c]).run P w = .ok v w:=by
 rcases hown.2 with ⟨rfl,rfl⟩ | ⟨g,cap,cur,rfl,_,_,hnc,_⟩
 · simp [Builtin.append_,run_underlying ht,sizeOf,typeInfo,hi,Builtin.lenOf,Builtin.firstCells]
 · simp [Builtin.append_,run_underlying ht,sizeOf,typeInfo,hi,Builtin.lenOf,Builtin.firstCells,hnc,storeCells]
theorem run_append_src (base : Nat) (t ty e : TypeId) (i : TypeInfo) (z : Value) (size bytes : Nat) (ht : P.underlying t = some (.slice e)) (hi : P.info? e = some i) (hz : i.zero = some z)
  (hsize : i.size = size) (hby : i.bytes = bytes) (hzs : z.cells.size = size) (hsz : 0 < size)
  (v : Value) (n : Nat) (xs : List Value) (hown : w.ownsRow base e size v n xs)
  (A : Option Addr) (m c : Nat) (news : List Value) (hr : Src w size A m news) (h1 : ∀ u ∈ news,u.oneCell' = true)
  (nm : Nat) (hnm : n + m = nm) (h63 : nm <= maxLen) (hbytes : nm * bytes <= 140737488355328) (hbase : base <= w.heap.size) (hA : A = none -> m = 0) :
  ∃ A' c' w',(Builtin.append_ #[t,t] ty #[v,.slice A m c]).run P w = .ok (.slice A' nm c') w' /\ w'.ownsRow base e size (.slice A' nm c') nm (xs ++ news) /\ w.grownBy w' v.ownBlock:=by
 subst hnm
 suffices H : ∃ v' w',(Builtin.append_ #[t,t] ty #[v,.slice A m c]).run P w = .ok v' w' /\ w'.ownsRow base e size v' (n + m) (xs ++ news) /\ w.grownBy w' v.ownBlock by
  obtain ⟨v',w',h1,h2,h3⟩:=H
  rcases h2.2 with ⟨e1,e2⟩ | ⟨g,cap,cur,e1,_⟩
  · exact ⟨none,0,w',by rw [h1,e1,e2],by rw [e1] at h2; rw [e2] at h2 ⊢; exact h2,h3⟩
  · exact ⟨_,cap,w',by rw [h1,e1],by rw [e1] at h2; exact h2,h3⟩
 rcases A with _ | ad
 ·
  have hm : m = 0:=hA rfl; subst hm; have hn : news = []:=List.eq_nil_of_length_eq_zero (by simpa using hr.1); subst hn; exact ⟨v,w,run_append_of_nil w base t ty e i size ht hi v n xs hown c,by simpa using hown,World.grownBy.refl _ _⟩
 ·
  have hcells : ∀ j u,news[j]? = some u -> w.cell? (ad.add j) = some u:=by
   intro j u hu
   rcases Nat.eq_zero_or_pos m with h0 | h0
   ·
    subst h0; have hn : news = []:=List.eq_nil_of_length_eq_zero (by simpa using hr.1); subst hn; simp at hu
   ·
    obtain ⟨ad',h,hc⟩:=hr.2 h0
    injection h with h
    subst h; exact hc j u hu
  obtain ⟨v',w',hrun,h2,h3,_,_⟩:=run_append_own_at (P:=P) w base t ty e i z size bytes ht hi hz hsize hby hzs hsz v n xs hown ad m c news hr.1 hcells h1 h63 hbytes hbase; exact ⟨v',w',hrun,h2,h3⟩
theorem wp_append_src {o : Oper} {a : Act} {K : Act -> World -> Prop} {Q : Exit -> Act -> World -> Prop} (s x : Operand) (t : TypeId)
  (ho : o.op = .call { callee:=.builtin .append,args:=#[s,x],argTypes:=#[t,t] })
  (base : Nat) (e : TypeId) (i : TypeInfo) (z : Value) (size bytes : Nat) (ht : P.underlying t = some (.slice e)) (hi : P.info? e = some i) (hz : i.zero = some z)
  (hsize : i.size = size) (hby : i.bytes = bytes) (hzs : z.cells.size = size) (hsz : 0 < size)
  (v : Value) (n : Nat) (xs : List Value) (hs : a.eval s = v) (hown : w.ownsRow base e size v n xs)
  (A : Option Addr) (m c : Nat) (news : List Value) (hx : a.eval x = .slice A m c) (hr : Src w size A m news) (h1 : ∀ u ∈ news,u.oneCell' = true)
  (nm : Nat) (hnm : n + m = nm) (h63 : nm <= maxLen) (hbytes : nm * bytes <= 140737488355328) (hbase : base <= w.heap.size) (hA : A = none -> m = 0)
  (h : ∀ A' c' w',w'.ownsRow base e size (.slice A' nm c') nm (xs ++ news) -> Below base w w' -> w.grownBy w' v.ownBlock -> K (a.put o.dst (.slice A' nm c')) w') : o.wp P a w K Q:=by
 obtain ⟨A',c',w',hrun,h2,h3⟩:=run_append_src (P:=P) w base t o.type e i z size bytes ht hi hz hsize hby hzs hsz v n xs hown A m c news hr h1 nm hnm h63 hbytes hbase hA; unfold Oper.wp execOp; simp only [ho,resolve,invoke,builtin,Sem.run_bind,Sem.run_pure,Result.andThen_ok,List.map_toArray,List.map_cons,List.map_nil,hs,hx,hrun]; exact h A' c' w' h2 ((Below.refl _ _).grown h3 hbase (fun k hk => (hown.lt k hk).1)) h3
theorem z0w {ops : Array Oper} {rest : List Oper} {o : Oper} {a : Act} {Q : Exit -> Act -> World -> Prop} (hgd : o.guard = none) (s x : Operand) (t : TypeId)
  (ho : o.op = .call { callee:=.builtin .append,args:=#[s,x],argTypes:=#[t,t] })
  (base : Nat) (e : TypeId) (i : TypeInfo) (z : Value) (size bytes : Nat) (ht : P.underlying t = some (.slice e)) (hi : P.info? e = some i) (hz : i.zero = some z)
  (hsize : i.size = size) (hby : i.bytes = bytes) (hzs : z.cells.size = size) (hsz : 0 < size)
  (v : Value) (n : Nat) (xs : List Value) (hs : a.eval s = v) (hown : w.ownsRow base e size v n xs)
  (A : Option Addr) (m c : Nat) (news : List Value) (hx : a.eval x = .slice A m c) (hr : Src w size A m news) (h1 : ∀ u ∈ news,u.oneCell' = true)
  (nm : Nat) (hnm : n + m = nm) (h63 : nm <= maxLen) (hbytes : nm * bytes <= 140737488355328) (hbase : base <= w.heap.size) (hA : A = none -> m = 0)
  (h : ∀ A' c' w',w'.ownsRow base e size (.slice A' nm c') nm (xs ++ news) -> Below base w w' -> w.grownBy w' v.ownBlock -> wpList P ops Q rest (a.put o.dst (.slice A' nm c')) w') : wpList P ops Q (o :: rest) a w :=
 wpList_plain hgd fun _ hK => wp_append_src w s x t ho base e i z size bytes ht hi hz hsize hby hzs hsz v n xs hs hown A m c news hx hr h1 nm hnm h63 hbytes hbase hA fun A' c' w' h2 h3 h4 => hK _ _ (h A' c' w' h2 h3 h4)
theorem step_append_src {ops : Array Oper} {o : Oper} {a : Act} {K : Act -> World -> Prop} {Q : Exit -> Act -> World -> Prop} {E : Prop} (hgd : o.guard = none) (s x : Operand) (t : TypeId)
  (ho : o.op = .call { callee:=.builtin .append,args:=#[s,x],argTypes:=#[t,t] })
  (base : Nat) (e : TypeId) (i : TypeInfo) (z : Value) (size bytes : Nat) (ht : P.underlying t = some (.slice e)) (hi : P.info? e = some i) (hz : i.zero = some z)
  (hsize : i.size = size) (hby : i.bytes = bytes) (hzs : z.cells.size = size) (hsz : 0 < size)
  (v : Value) (n : Nat) (xs : List Value) (hs : a.eval s = v) (hown : w.ownsRow base e size v n xs)
  (A : Option Addr) (m c : Nat) (news : List Value) (hx : a.eval x = .slice A m c) (hr : Src w size A m news) (h1 : ∀ u ∈ news,u.oneCell' = true)
  (nm : Nat) (hnm : n + m = nm) (h63 : nm <= maxLen) (hbytes : nm * bytes <= 140737488355328) (hbase : base <= w.heap.size) (hA : A = none -> m = 0)
  (h : ∀ A' c' w',w'.ownsRow base e size (.slice A' nm c') nm (xs ++ news) -> Below base w w' -> w.grownBy w' v.ownBlock -> K (a.put o.dst (.slice A' nm c')) w') :
  if Region.wanted o (yielded ops a.tmps) = true then Oper.wp P o a w K Q else E:=by
 have hw : Region.wanted o (yielded ops a.tmps) = true:=by simp [Region.wanted,hgd]
 rw [if_pos hw]; exact wp_append_src w s x t ho base e i z size bytes ht hi hz hsize hby hzs hsz v n xs hs hown A m c news hx hr h1 nm hnm h63 hbytes hbase hA h
end
theorem src_block {W : World} {B : Nat} {e : TypeId} {cs : Array Value} {fr : Nat × Nat} {size m : Nat} (hb : W.heap[B]? = some (.cells cs e fr)) (hm : cs.size = m * size) : Src W size (some ⟨B,0,none⟩) m cs.toList :=
 ⟨by simpa using hm,fun _ => ⟨_,rfl,World.news_of_block hb⟩⟩
theorem z18 {W : World} {S : Nat} {e : TypeId} {size : Nat} (hS : W.heap.size = S) : (W.alloc (.cells #[] e)).ownsRow S e size (.slice (some ⟨S,0,none⟩) 0 0) 0 []:=by
 subst hS; exact World.ownsRow_lit W #[] 0 (Nat.le_refl _) (by unfold maxLen; omega) (by simp)
end Go.Proofs.YtemdmlmcidfodaaGreatDoor
namespace Go.Proofs.YtemdmlmcidfodaaGreatDoor
open Go Go.RowKit
section
variable {P : Program} {ops : Array Oper} {md : Region.Mode} {C : World -> Prop}
def anyHead (P : Program) (md : Region.Mode) (ops : Array Oper) (C : World -> Prop) (n : Nat) (L : Array Bool -> Act -> Prop) : Nat -> Array Bool -> Act -> Prop
 | 0,listed,a => L listed a
 | f + 1,listed,a => Region.ready md ops listed ≠ [] /\ ∀ i ∈ Region.ready md ops listed,i < n /\ qOp P ops C i (anyHead P md ops C n L f (listed.setIfInBounds i true)) a
theorem any_of_head {n g : Nat} {L : Array Bool -> Act -> Prop} {Q' : Exit -> Act -> World -> Prop} (hL : ∀ listed a w,C w -> L listed a -> wpAny P md ops Q' g listed a w) :
  ∀ (f : Nat) (listed : Array Bool) (a : Act) (w : World),C w -> anyHead P md ops C n L f listed a -> wpAny P md ops Q' (f + g) listed a w
 | 0,listed,a,w,hw,h => by rw [Nat.zero_add]; exact hL _ _ _ hw h
 | f + 1,listed,a,w,hw,h => by
  rw [show f + 1 + g = (f + g) + 1 by omega]; exact ⟨fun h0 => absurd h0 h.1,fun i hi => wpOp_of_qOp hw (fun a' w' hw' h' => any_of_head hL f _ a' w' hw' h') (h.2 i hi).2⟩
theorem head_first {n i : Nat} {oi : Oper} {v : Value} {L : Array Bool -> Act -> Prop} (hi : ops[i]? = some oi) (hsel : ∀ (j : Nat) (o : Oper) cs b,ops[j]? = some o -> o.op ≠ .select cs b)
  (hs : Region.sinkB md ops n = true) (hc : Region.chainB md ops n = true) (hn : n < ops.size) (hin : i < n) (hdone : ∀ listed a,L listed a -> ∀ j ∈ Region.ready md ops listed,n <= j) :
  ∀ (f : Nat) (listed : Array Bool) (a : Act),HeadInv md ops n listed →
   (∀ j oj,ops[j]? = some oj -> j ≠ i -> listed.getD j true = false -> (∀ e ∈ oj.after,Region.binds md e = true -> e.on ≠ i) -> oi.apart ops oj = true) →
   i ∈ Region.ready md ops listed -> YieldsIn P ops C oi v a →
   anyHead P md ops C n L f (listed.setIfInBounds i true) (a.put oi.dst v) -> anyHead P md ops C n L (f + 1) listed a:=by
 intro f
 induction f with
 | zero =>
  intro listed a inv _ hr hy H; have hun:=(mem_ready.1 hr).1; refine ⟨fun h => (by rw [h] at hr; cases hr),fun j hj => ?_⟩; have hjn : j < n:=Nat.lt_of_not_le fun h => tail_waits hs hc hn inv _ i rfl hin hun j h hj
  refine ⟨hjn,?_⟩
  by_cases hji : j = i
  · subst hji; exact hy.qOp hi H
  ·
   have:=hdone _ _ H j (ready_mono hj hji)
   omega
 | succ f ih =>
  intro listed a inv hfree hr hy H; have hun:=(mem_ready.1 hr).1; refine ⟨fun h => (by rw [h] at hr; cases hr),fun j hj => ?_⟩; have hjn : j < n:=Nat.lt_of_not_le fun h => tail_waits hs hc hn inv _ i rfl hin hun j h hj
  refine ⟨hjn,?_⟩
  by_cases hji : j = i
  · subst hji; exact hy.qOp hi H
  ·
   have h1:=(H.2 j (ready_mono hj hji)).2; obtain ⟨hjun,oj,hoj,hall⟩:=mem_ready.1 hj; have hnot : ∀ e ∈ oj.after,Region.binds md e = true -> e.on ≠ i:=fun e he hb heq => by
    have h1:=hall e he hb; rw [heq,getD_both hun] at h1
    cases h1
   have h2:=qOp_put hoj (hfree j oj hoj hji hjun hnot) (fun cs b => hsel i oi cs b hi) (fun cs b => hsel j oj cs b hoj) hy h1; refine qOp_mono (fun a' h3 => ih (listed.setIfInBounds j true) a' (inv.set hj hjn) (fun k ok hk hki hku hno => hfree k ok hk hki ?_ hno) (ready_mono hr (Ne.symm hji)) h3.1 ?_) h2
   ·
    by_cases hjk : j = k
    · subst hjk; exact hjun
    · rw [getD_set_ne true hjk] at hku; exact hku
   ·
    rw [Array.setIfInBounds_comm _ _ hji]; exact h3.2
theorem head_lex {n g : Nat} {Lq : Act -> Prop} (hsel : Region.noSelect ops = true) (hs : Region.sinkB md ops n = true) (hc : Region.chainB md ops n = true) (hn : n < ops.size) :
  ∀ (l : List Oper) (k : Nat) (listed : Array Bool) (a : Act),(∀ j,j < l.length -> l[j]? = ops[k + j]?) -> k + l.length = n -> HeadInv md ops n listed →
  Region.lexHead md ops g l.length k listed = true -> wpQuiet P ops C Lq l a →
  anyHead P md ops C n (fun listed' a' => Region.seqB md ops g n listed' = true /\ Lq a') l.length listed a
 | [],k,listed,a,_,hk,_,hB,h => by
  have : k = n:=by simpa using hk
  subst this; exact ⟨by simpa [Region.lexHead] using hB,h⟩
 | o :: l,k,listed,a,hl,hk,inv,hB,h => by
  have h0 : ops[k]? = some o:=by simpa using (hl 0 (by simp)).symm
  simp only [List.length_cons,Region.lexHead,Bool.and_eq_true] at hB; obtain ⟨⟨hr,hf⟩,hB'⟩:=hB; have hkn : k < n:=by simp only [List.length_cons] at hk; omega
  have hr' : k ∈ Region.ready md ops listed:=by simpa using hr
  obtain ⟨v,hy,hK⟩:=yieldsIn_of_qOp (P:=P) (C:=C) (K:=wpQuiet P ops C Lq l) h0 (by unfold qOp; simp only [h0]; exact h); exact head_first h0 (Region.noSelect_spec hsel) hs hc hn hkn (fun listed' a' hL => seqB_ready hL.1) l.length listed a inv (Region.free_spec h0 hf) hr' hy
   (head_lex hsel hs hc hn l (k + 1) _ _ (fun j hj => by have:=hl (j + 1) (by simp; omega); simpa [Nat.add_assoc,Nat.add_comm 1 j] using this) (by simp only [List.length_cons] at hk; omega) (inv.set hr' hkn) hB' hK)
theorem wp_region_quiet_tail {id : Nat} {Q : Exit -> Act -> World -> Prop} {a : Act} {w : World} {l : List Oper} (n : Nat) (hm : P.follows .mixedOrders = true) (hB : Region.lexTailB .any l.toArray n = true)
  (hC : C { w with drawn:=w.drawn + 1 }) (h : wpQuiet P l.toArray C (fun a' => ∀ w',C w' -> wpList P l.toArray Q (l.drop n) a' w') (l.take n) a) : (Code.region id l.toArray true).wp P Q a w:=by
 simp only [Region.lexTailB,Bool.and_eq_true,decide_eq_true_eq] at hB; obtain ⟨⟨⟨⟨hsel,hn⟩,hs⟩,hc⟩,hlex⟩:=hB; have hn' : n < l.length:=by simpa using hn
 have htl : (l.take n).length = n:=by simp; omega
 have hdl : (l.drop n).length = l.toArray.size - n:=by simp
 have inv0 : HeadInv .any l.toArray n (Array.replicate l.toArray.size false) :=
  ⟨by simp,fun j oj _ hl => (by rw [getD_replicate_false] at hl; cases hl),fun t _ ht => getD_in (by simpa using ht) (getD_replicate_false _ _)⟩
 have H:=head_lex (C:=C) (md:=.any) (g:=l.toArray.size - n) hsel hs hc hn (l.take n) 0 _ a (fun j hj => by
  have hj' : j < n:=by rw [htl] at hj; exact hj
  simp [hj']) (by simpa using htl) inv0 (by rw [htl]; exact hlex) h
 refine wp_region_any hm ?_; have:=any_of_head (Q':=Q) (g:=l.toArray.size - n) (fun listed a' w' hw' hL => by
  have:=wpAny_of_seq (md:=.any) (Q':=Q) (l.drop n) n listed a' w' (fun j => by simp [List.getElem?_drop]) (by rw [hdl]; exact hL.1) (hL.2 w' hw')
  rwa [hdl] at this) _ _ _ _ hC H
 rw [htl,show n + (l.toArray.size - n) = l.toArray.size by omega] at this; exact this
end
theorem z1l {P : Program} {id : Nat} {Q : Exit -> Act -> World -> Prop} {a : Act} {w : World} {l : List Oper} (n : Nat) (hm : P.follows .mixedOrders = true) (hB : Region.lexTailB .any l.toArray n = true)
  (h : wpQuiet P l.toArray (fun w' => ∃ x : z0f w,w' = x.W) (fun a' => ∀ w',(∃ x : z0f w,w' = x.W) -> wpList P l.toArray Q (l.drop n) a' w') (l.take n) a) : (Code.region id l.toArray true).wp P Q a w :=
 wp_region_quiet_tail (C:=fun w' => ∃ x : z0f w,w' = x.W) n hm hB ⟨⟨w.drewN 1,z02 (Below.refl _ _) 1⟩,rfl⟩ h
end Go.Proofs.YtemdmlmcidfodaaGreatDoor
namespace Go.Proofs.YtemdmlmcidfodaaGreatDoor
open Go Go.RowKit
theorem src_ints {w : World} {F : Nat -> Prop} {A : Option Addr} {xs : List Int} (h : Lay.int.Sl w F A xs) : Src w 1 A xs.length (xs.map (Value.int .i64)):=by
 refine ⟨by simp,fun h0 => ?_⟩; obtain ⟨ad,rfl,_,hc⟩:=h h0; refine ⟨ad,rfl,fun j u hu => ?_⟩; rw [List.getElem?_map] at hu
 cases hx : xs[j]? with
 | none => rw [hx] at hu; cases hu
 | some x =>
  rw [hx] at hu
  injection hu with hu
  subst hu; obtain ⟨vs,rfl,hcell⟩:=hc j x hx; have:=hcell 0 _ rfl; rw [show Lay.int.size = 1 from rfl,Nat.mul_one,Nat.add_zero] at this; exact this
theorem ints_one (xs : List Int) : ∀ u ∈ xs.map (Value.int .i64),u.oneCell' = true:=by
 intro u hu; obtain ⟨x,_,rfl⟩:=List.mem_map.1 hu
 rfl
def OwnI (w : World) (base : Nat) (v : Value) (xs : List Int) : Prop:=w.ownsRow base 3 1 v xs.length (xs.map (Value.int .i64))
theorem OwnI.up {w w' : World} {base : Nat} {v : Value} {xs : List Int} (h : OwnI w base v xs) (hb : Below w.heap.size w w') : OwnI w' base v xs:=z0e h hb (Nat.le_refl _)
theorem OwnI.form {w : World} {base : Nat} {v : Value} {xs : List Int} (h : OwnI w base v xs) : ∃ A c,v = .slice A xs.length c /\ xs.length <= c /\ Lay.int.Sl w (fun b => base <= b /\ b < w.heap.size) A xs:=by
 have hh:=h; unfold OwnI at h
 rcases h.2 with ⟨h1,h2⟩ | ⟨g,cap,cur,h1,_,_,h3,_⟩
 ·
  subst h1; have : xs = []:=List.eq_nil_of_length_eq_zero h2; subst this; exact ⟨none,0,rfl,by simp,.nil _ _ _ _⟩
 ·
  subst h1; exact ⟨_,cap,rfl,h3,(sl_ints_of_own hh (fun g h1 h2 => ⟨h1,h2⟩)).1⟩
theorem OwnI.rd {w : World} {base c : Nat} {A : Option Addr} {xs : List Int} (h : OwnI w base (.slice A xs.length c) xs) : Lay.int.Rd w A xs:=by
 obtain ⟨A',c',e,h1,h2⟩:=h.form
 injection e with e1 e2 e3
 subst e1; exact h2.rd
end Go.Proofs.YtemdmlmcidfodaaGreatDoor
