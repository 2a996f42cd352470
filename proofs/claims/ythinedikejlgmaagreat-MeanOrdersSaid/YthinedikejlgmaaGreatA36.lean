import Derived.Test.YthinedikejlgmaaGreatA35
set_option linter.all false
section
set_option maxRecDepth 20000
namespace Go.Aft
open Go.Proofs.Tryz
def f4h (P:Program) (f:FuncId) (args:List LV) (H:GH) (v:LV):Prop:=∀ H',H.next<=H'.next->(∀ m,m < H.next->H'.obj m=H.obj m)->a0j P f args H' fun ce H2=>ce=.ret v/\H2=H'
theorem AFun.keeps {P:Program} {f:FuncId} {args:List LV} {v:LV} (h:AFun P f args v) (H:GH):f4h P f args H v:=fun H' _ _=>h H'
theorem a9v (g:Item->Item) (l:List Item) (hl:l.length<=1000000) (F:FuncId) (cap:List LV) (H:GH) (hcap:nbs H.next cap) (hF:∀ x ∈ l,f4h prog F ([lv (a0i x)] ++ cap) H (lv (a0i (g x)))) :
  a0j prog 226 [sl (l.map a0i),.fn (.func F) [] cap] H fun ce H'=>ce=.ret (sl ((l.map g).map a0i))/\H'=H:=by
 have cc:=cx0_ok
 refine a0j.a1j cx0_ok func226 rfl call226 (by rw [ntmps226];simp) rfl fun hf hw=>?_
 simp [ntmps226,results226] at hf |-
 refine AW.a0w cc (fun a:Nat × LV × GH=>⟨[(1,.fn (.func F) [] cap),(5,a.2.1),(8,.d (.sl (l.map a0i))),(9,lvI l.length),(10,lvI a.1)],[],a.2.2⟩) (fun a=>l.length - a.1) (fun a=>a.1<=l.length/\AppX 86 4 H a.2.1 (((l.take a.1).map g).map a0i) a.2.2) (0,.d (.k (.slice none 0 0)),H) ⟨⟨by simp,.nil⟩,by simp [LV.only,a3c,a1r _ hcap]⟩ ?_
 rintro ⟨i,x,H'⟩ ⟨hi,happ⟩
 simp only at hi happ
 simp
 refine ⟨fun h=>?_,fun h=>?_⟩
 ·have hd:=hF l[i] (List.getElem_mem h) H' happ.nx happ.ob
  simp [a0i] at hd
  simp [h,List.getElem?_eq_getElem h,a0i,happ.plain.all]
  refine ⟨a2w happ.nx _ hcap,EC.of hd (fun v H2 hR=>?_) (fun v H2 hR=>by cases hR.1)⟩
  obtain ⟨q,rfl⟩:=hR
  cases q
  simp [happ.plain.all]
  refine APK.appX (ys:=[a0i (g l[i])]) tyE29 rfl tyE86 (by simp) (x:=x) (by simp) happ (by simp [a0i,rowsOf]) (by simp) (a1b _) (fun r hr=>by simp only [List.mem_singleton] at hr;subst hr;rfl) (by simp;omega) (by simp) fun x' H3 happ' _ _=>?_
  rw [show ((l.take i).map g).map a0i ++ [a0i (g l[i])]=((l.take (i+1)).map g).map a0i by rw [<- a0p h,List.map_append,List.map_append];rfl] at happ'
  simp [happ'.plain.all,happ'.only,wrap_succ (n:=9223372036854775807) (show i < 9223372036854775807 by omega)]
  exact NX.go (i+1,x',H3) (by simp;omega) ⟨h,happ'⟩ (by simp [happ'.only,happ'.plain.all,LV.only,a3c,a1r _ hcap,a0i])
 ·have:i=l.length:=by omega
  subst this
  rw [List.take_length] at happ
  simp [happ.plain.all,happ.fz]
  exact fun hz=>a0m happ.nx happ.ob hw.none
theorem d2q (x:Item) (n:Int) (h:-1000000000<=x.rec_.at_+n/\x.rec_.at_+n<=1000000000):AFun prog 264 [lv (a0i x),.ip [lvI n] 0] (lv (a0i ⟨⟨x.rec_.at_+n,x.rec_.key,x.rec_.val⟩,x.n⟩)):=by
 refine AFun.body (a0g (p:=kds [] [] [])) func264 rfl call264 (by rw [ntmps264];simp) rfl fun hf H=>?_
 have hw:IntKind.wrap .i64 (x.rec_.at_+n)=x.rec_.at_+n:=by rw [wrap64] <;> omega
 simp [ntmps264,results264,a0i,hw]
theorem c2l (l:List Item) (n:Int) (hl:l.length<=1000000) (h:∀ x ∈ l,-1000000000<=x.rec_.at_+n/\x.rec_.at_+n<=1000000000):AFun prog 224 [sl (l.map a0i),lvI n] (sl ((a4r n l).map a0i)):=by
 intro H
 have hc:=a9v (fun x=>⟨⟨x.rec_.at_+n,x.rec_.key,x.rec_.val⟩,x.n⟩) l hl 264 [.ip [lvI n] 0] H (by simp [nbs,LV.nb]) (fun x hx=>(d2q x n (h x hx)).keeps H)
 refine a0j.a1j (a0g (p:=kds [3] [] [])) func224 rfl call224 (by rw [ntmps224];simp) rfl fun hf hw=>?_
 simp at hc
 simp [ntmps224,results224]
 refine EC.of hc (fun v H2 hR=>?_) (fun v H2 hR=>by cases hR.1)
 obtain ⟨q,rfl⟩:=hR
 cases q
 simp
 exact fun hz=>⟨hz.drop (Nat.le_refl _),by rw [a4r,List.map_map]⟩
theorem e0f (x:Item):AFun prog 235 [lv (a0i x)] (lv (a0i ⟨x.rec_,1⟩)):=by
 refine AFun.body (a0g (p:=kds [1] [] [])) func235 rfl call235 (by rw [ntmps235];simp) rfl fun hf H=>?_
 simp [ntmps235,results235,a0i]
def spV (o:Option (Int × Int)):LV:=match o with | some (a,b)=>.tup [lvI a,lvI b,.d (.k (.bool true))] | none=>.tup [lvI 0,lvI 0,.d (.k (.bool false))]
def ipE (e:Exp):LV:=.ip ((rExp e).map .d) 0
theorem d2r (e:Exp) (l:List Item) (t:Int) (hn:1<=e.n/\e.n<=50) (ht:0<=t/\t<=200):AFun prog 229 [sl (l.map a0i),lvI t,ipE e] (spV (b5y e.n l t)):=by
 refine AFun.body (a0g (p:=kds [] [] [])) func229 rfl call229 (by rw [ntmps229];simp) rfl fun hf H=>?_
 have cc:=a0g (p:=kds [] [] [])
 have hn0:e.n ≠ 0:=by omega
 have hq0:0<=t.tdiv e.n * e.n/\t.tdiv e.n * e.n<=200:=by
  have h1:=Int.tmod_add_mul_tdiv t e.n
  have h2:0<=t.tmod e.n:=Int.tmod_nonneg _ ht.1
  have h3:0<=t.tdiv e.n:=Int.tdiv_nonneg ht.1 (by omega)
  have h4:0<=t.tdiv e.n * e.n:=Int.mul_nonneg h3 (by omega)
  rw [Int.mul_comm] at h1
  omega
 have hq1:0<=t.tdiv e.n/\t.tdiv e.n<=200:=⟨Int.tdiv_nonneg ht.1 (by omega),Int.le_trans (Int.tdiv_le_self _ ht.1) ht.2⟩
 have w1:IntKind.wrap .i64 (t.tdiv e.n)=t.tdiv e.n:=by rw [wrap64] <;> omega
 have w2:IntKind.wrap .i64 (t.tdiv e.n * e.n)=t.tdiv e.n * e.n:=by rw [wrap64] <;> omega
 have w3:IntKind.wrap .i64 (t.tdiv e.n * e.n+e.n)=t.tdiv e.n * e.n+e.n:=by rw [wrap64] <;> omega
 have w4:IntKind.wrap .i64 (t.tdiv e.n * e.n+e.n - 1)=t.tdiv e.n * e.n+e.n - 1:=by rw [wrap64] <;> omega
 simp [ntmps229,results229,ipE,a0c]
 refine AW.draw cc [] (.q 0<|.q 1<|.q 4<|.q 2<|.q 3<|.q 5<|.q 6<|.q 7<|.done) (by kernel_rfl) ?_
 simp [hn0,w1,w2]
 refine AW.draw cc [] (.q 0<|.q 1<|.q 2<|.q 6<|.q 3<|.q 4<|.q 5<|.q 7<|.q 8<|.done) (by kernel_rfl) ?_
 simp [w3,w4,spV,b5y]
theorem d2p (e:Exp) (l:List Item) (t:Int) (hn:0<=e.n/\e.n<=50) (ht:0<=t/\t<=200):AFun prog 230 [sl (l.map a0i),lvI t,ipE e] (spV (b2t e.n l t)):=by
 refine AFun.body (a0g (p:=kds [] [] [])) func230 rfl call230 (by rw [ntmps230];simp) rfl fun hf H=>?_
 have w1:IntKind.wrap .i64 (t - e.n)=t - e.n:=by rw [wrap64] <;> omega
 simp [ntmps230,results230,ipE,a0c,w1,spV,b2t]
theorem d2o (l:List Item) (t:Int):AFun prog 231 [sl (l.map a0i),lvI t] (spV (b7e l t)):=by
 refine AFun.body (a0g (p:=kds [] [] [])) func231 rfl call231 (by rw [ntmps231];simp) rfl fun hf H=>?_
 simp [ntmps231,results231,spV,b7e]
theorem a5i {low high:Int} {l:List Item} {x:Item} (h:x ∈ a1a low high l):x ∈ l:=by
 unfold a1a b2i at h
 exact (List.dropWhile_sublist _).mem ((List.takeWhile_sublist _).mem h)
def IncT (l:List Item):Prop:=l.Pairwise fun a b=>a.rec_.at_<=b.rec_.at_
theorem d6v {low:Int}:∀ {l:List Item},IncT l->∀ x ∈ b2i low l,low<=x.rec_.at_
 | [],_,x,hx=>by simp [b2i] at hx
 | y :: l,h,x,hx=>by
  have h':=List.pairwise_cons.1 h
  simp only [b2i] at hx
  rw [List.dropWhile_cons] at hx
  split at hx
  ·exact d6v h'.2 x hx
  ·rename_i q
   have q':low<=y.rec_.at_:=by simpa using q
   rcases List.mem_cons.1 hx with e | e
   ·rw [e];exact q'
   ·exact Int.le_trans q' (h'.1 x e)
theorem e1r {low high:Int} {l:List Item} (h:IncT l) {x:Item} (hx:x ∈ a1a low high l):low<=x.rec_.at_/\x.rec_.at_<=high:=by
 unfold a1a at hx
 exact ⟨d6v h x ((List.takeWhile_sublist _).mem hx),by have:=List.all_eq_true.1 (List.all_takeWhile (p:=fun x:Item=>decide (x.rec_.at_<=high)) (l:=b2i low l)) x hx;simpa using this⟩
theorem e3t {n:Int} {l:List Item}:∀ (k:Nat) (t:Int),a1a (t - n) (t - 1) l=[]->lowS n l k t=t
 | 0,t,h=>rfl
 | k+1,t,h=>by rw [lowS,h]
theorem e0e (e:Exp) (l:List Item) (t:Int) (hn:1<=e.n/\e.n<=50) (ht:0<=t/\t<=200) (hl:IncT l) (hb:∀ x ∈ l,0<=x.rec_.at_/\x.rec_.at_<=200):AFun prog 232 [sl (l.map a0i),lvI t,ipE e] (spV (b6i e.n l t)):=by
 refine AFun.body (a0g (p:=kds [] [] [])) func232 rfl call232 (by rw [ntmps232];simp) rfl fun hf H=>?_
 have cc:=a0g (p:=kds [] [] [])
 have wi:=fun a b=>a8g l a b
 have w1:IntKind.wrap .i64 (t+1)=t+1:=by rw [wrap64] <;> omega
 have w2:IntKind.wrap .i64 (t+e.n)=t+e.n:=by rw [wrap64] <;> omega
 have w3:∀ u:Int,0<=u->u<=200->IntKind.wrap .i64 (u - e.n)=u - e.n:=fun u a b=>by rw [wrap64] <;> omega
 have w4:∀ u:Int,0<=u->u<=200->IntKind.wrap .i64 (u - 1)=u - 1:=fun u a b=>by rw [wrap64] <;> omega
 simp at wi
 simp [ntmps232,results232,ipE,a0c,w1,w2,w3 t ht.1 ht.2,w4 t ht.1 ht.2]
 refine EC.afun (wi _ _) ?_
 simp
 refine ⟨fun h=>?_,fun h=>?_⟩
 ·have:b6i e.n l t=none:=by
   unfold b6i
   cases hq:a1a (t+1) (t+e.n) l with
   | nil=>rw [hq] at h;simp at h
   | cons a b=>rfl
  simp [this,spV]
 ·have hnil:a1a (t+1) (t+e.n) l=[]:=by
   cases hq:a1a (t+1) (t+e.n) l with
   | nil=>rfl
   | cons a b=>rw [hq] at h;simp at h;try omega
  have hrs:b6i e.n l t=some (lowS e.n l 201 t,t):=by unfold b6i;rw [hnil]
  refine EC.afun (wi _ _) ?_
  simp
  refine AW.a0w cc (fun u:Nat × Int=>⟨[(0,.d (.sl (l.map a0i))),(1,lvI t),(2,ipE e),(8,lvI u.2),(9,.d (.sl ((a1a (u.2 - e.n) (u.2 - 1) l).map a0i)))],[],H⟩) (fun u=>u.2.toNat)
   (fun u=>0<=u.2/\u.2<=200/\u.2<=(u.1:Int)/\lowS e.n l u.1 u.2=lowS e.n l 201 t) (201,t) ⟨⟨ht.1,ht.2,by simp;omega,rfl⟩,by simp [ipE,a0c,w3 t ht.1 ht.2,w4 t ht.1 ht.2]⟩ ?_
  rintro ⟨k,u⟩ ⟨h1,h2,h3,h4⟩
  simp only at h1 h2 h3 h4
  simp
  refine ⟨fun q=>?_,fun q=>?_⟩
  ·obtain ⟨x,r,hx⟩:∃ x r,a1a (u - e.n) (u - 1) l=x :: r:=by
    cases hq:a1a (u - e.n) (u - 1) l with
    | nil=>rw [hq] at q;simp at q;try omega
    | cons a b=>exact ⟨a,b,rfl⟩
   have hxl:=hb x (a5i (by rw [hx];simp))
   have hxi:=e1r hl (x:=x) (low:=u - e.n) (high:=u - 1) (by rw [hx];simp)
   obtain ⟨k',rfl⟩:∃ k',k=k' + 1:=⟨k - 1,by omega⟩
   have h5:lowS e.n l k' x.rec_.at_=lowS e.n l 201 t:=by rw [<- h4,lowS,hx]
   simp [hx,a0i,ipE,a0c,w3 _ hxl.1 hxl.2,w4 _ hxl.1 hxl.2]
   refine EC.afun (wi _ _) ?_
   simp
   exact NX.go (k',x.rec_.at_) (by simp only;omega) ⟨hxl.1,hxl.2,by omega,h5⟩ (by simp [ipE,a0c])
  ·have hnil2:a1a (u - e.n) (u - 1) l=[]:=by
    cases hq:a1a (u - e.n) (u - 1) l with
    | nil=>rfl
    | cons a b=>rw [hq] at q;simp at q;try omega
   rw [e3t k u hnil2] at h4
   simp [hrs,spV,h4]
end Go.Aft
end
section
set_option maxRecDepth 20000
namespace Go.Aft
open Go.Proofs.Tryz
def fzE (es:List (Value × LV)):List (Value × LV):=es.map fun e=>(e.1,fz e.2)
theorem c5n:∀ l:List LV,fzs l=l.map fz
 | []=>rfl
 | x :: l=>by rw [fzs,List.map_cons,c5n l]
theorem AW.f6k {P:Program} {rd:RD} {x:Code} {s:S} {Q:QT} (n:Nat) (es:List (Value × LV)) (hn:s.H.obj n=some (.map es)) (h:@AW P rd ⟨x⟩ { s with H:=s.H.set n (.map (fzE es)) } Q):@AW P rd ⟨x⟩ s Q:=by
 refine fun E a w hs=>h E a w ?_
 obtain ⟨h2,G,lm,h1,hM,hx,henv,he⟩:=hs
 refine ⟨h2,G,lm,h1,⟨hM.imm,fun b o v hv=>?_,hM.fresh,hM.lmL,hM.loc,fun m o ho=>?_⟩,⟨⟨hx.le,hx.nx,hx.os,hx.tape,hx.output,hx.drawn,hx.size,hx.frame,hx.own⟩,hx.nl⟩,henv,he⟩
 ·rcases hM.immOwn b o v hv with q | ⟨m,e,sz,k,q1,q2,q3⟩
  ·exact .inl q
  ·refine .inr ⟨m,e,sz,k,q1,?_,q3⟩
   rw [GH.a0f,if_neg]
   ·exact q2
   ·intro q;subst q;rw [hn] at q2;cases q2
 ·rw [GH.a0f] at ho
  split at ho
  ·rename_i e
   subst e
   cases ho
   obtain ⟨r1,r2,xs,c,r3,r4⟩:=hM.nmd _ _ hn
   obtain ⟨t1,t2,t3,t4⟩:=r4
   refine ⟨r1,r2,xs,c,r3,?_,?_,t3,t4⟩
   ·rw [t1];simp [fzE]
   ·have:=c3w _ _ t2
    rw [c5n] at this
    simp only [fzE,List.map_map,GH.a0l] at this |-
    exact this
  ·exact hM.nmd m o ho
def esI (ks:List Int) (f:Int->LV):List (Value × LV):=ks.map fun j=>(Value.int .i64 j,f j)
theorem a7k (k:Int) (f:Int->LV):∀ ks:List Int,a1c (.int .i64 k) (esI ks f)=if k ∈ ks then some (f k) else none
 | []=>rfl
 | j :: ks=>by
  have ih:=a7k k f ks
  simp only [esI,List.map_cons,a1c,a4f] at ih |-
  by_cases e:k=j
  ·simp [e]
  ·simp only [e,decide_false,Bool.false_eq_true,if_false,ih,List.mem_cons,false_or]
theorem a7s {ks:List Int} {f g:Int->LV} (h:∀ k ∈ ks,f k=g k):esI ks f=esI ks g:=List.map_congr_left fun k hk=>by rw [h k hk]
theorem b3c (k:Int) (v:LV) (f:Int->LV):∀ ks:List Int,ks.Nodup->mput (.int .i64 k) v (esI ks f)=esI (if k ∈ ks then ks else ks ++ [k]) (fun j=>if j=k then v else f j)
 | [],_=>by simp [esI,mput]
 | j :: ks,hn=>by
  have hn':=List.nodup_cons.1 hn
  have ih:=b3c k v f ks hn'.2
  simp only [esI,List.map_cons,mput,a4f] at ih |-
  by_cases e:k=j
  ·subst e
   simp only [decide_true,if_true,List.mem_cons,true_or,List.map_cons]
   refine congrArg _ (List.map_congr_left fun i hi=>?_)
   rw [if_neg (fun q=>hn'.1 (by rw [<- q];exact hi))]
  ·simp only [e,decide_false,Bool.false_eq_true,if_false,ih,List.mem_cons,false_or]
   by_cases e2:k ∈ ks
   ·simp only [e2,if_true,List.map_cons]
    rw [if_neg (fun q=>e q.symm)]
   ·simp only [e2,if_false,List.cons_append,List.map_cons]
    rw [if_neg (fun q=>e q.symm)]
theorem a4y (ks:List Int) (f:Int->LV):∀ (a:Value) (b:LV),(a,b) ∈ esI ks f->(KK.sc (Sc.int .i64)).has a=true:=fun a b h=>by
 obtain ⟨x,_,q⟩:=List.mem_map.1 h
 cases q;rfl
theorem a7m {k:Int}:∀ {l:List Item},k ∈ keysOf l ↔ ∃ x ∈ l,x.rec_.key=k
 | []=>by simp [keysOf]
 | x :: l=>by
  have ih:=a7m (k:=k) (l:=l)
  rw [keysOf,List.mem_cons,List.mem_filter,ih]
  constructor
  ·rintro (q | ⟨⟨y,h1,h2⟩,_⟩)
   ·exact ⟨x,by simp,q.symm⟩
   ·exact ⟨y,by simp [h1],h2⟩
  ·rintro ⟨y,h1,h2⟩
   by_cases e:k=x.rec_.key
   ·exact .inl e
   ·rcases List.mem_cons.1 h1 with q | q
    ·exact absurd (by rw [<- h2,q]) e
    ·exact .inr ⟨⟨y,q,h2⟩,by simpa using e⟩
theorem a4s:∀ l:List Item,(keysOf l).Nodup
 | []=>.nil
 | x :: l=>by
  rw [keysOf]
  exact List.nodup_cons.2 ⟨fun h=>by simpa using (List.mem_filter.1 h).2,(a4s l).filter _⟩
theorem b2g (x:Item):∀ l:List Item,keysOf (l ++ [x])=if x.rec_.key ∈ keysOf l then keysOf l else keysOf l ++ [x.rec_.key]
 | []=>by simp [keysOf]
 | y :: l=>by
  rw [List.cons_append,keysOf,keysOf,b2g x l]
  by_cases e:x.rec_.key=y.rec_.key
  ·rw [if_pos (show x.rec_.key ∈ y.rec_.key :: _ by rw [e];exact List.mem_cons_self ..)]
   split
   ·rfl
   ·rw [List.filter_append,List.filter_cons,if_neg (by simp [e]),List.filter_nil,List.append_nil]
  ·by_cases h:x.rec_.key ∈ keysOf l
   ·have h2:x.rec_.key ∈ y.rec_.key :: (keysOf l).filter fun k=>decide (k ≠ y.rec_.key):=List.mem_cons.2 (.inr (List.mem_filter.2 ⟨h,by simpa using e⟩))
    rw [if_pos h2,if_pos h]
   ·have h2:¬ x.rec_.key ∈ y.rec_.key :: (keysOf l).filter fun k=>decide (k ≠ y.rec_.key):=fun q=>by
     rcases List.mem_cons.1 q with q | q
     ·exact e q
     ·exact h (List.mem_filter.1 q).1
    rw [if_neg h2,if_neg h,List.filter_append,List.filter_cons,if_pos (by simpa using e)]
    rfl
theorem c1u (k:Int) (x:Item) (l:List Item):rowOf k (l ++ [x])=rowOf k l ++ (if x.rec_.key=k then [x] else []):=by
 unfold rowOf
 rw [List.filter_append,List.filter_cons]
 by_cases e:x.rec_.key=k <;> simp [e]
def rowE (b:List Item) (k:Int):LV:=sl ((rowOf k b).map a0i)
def c0q (b:List Item):List (Value × LV):=esI (keysOf b) (rowE b)
structure KeyR (N:Nat) (b:List Item) (own:Int->Nat) (H:GH):Prop where
 lo:∀ k ∈ keysOf b,N<=own k/\own k < H.next
 ob:∀ k ∈ keysOf b,H.obj (own k)=some (.arr 86 4 (rowOf k b).length)
 inj:∀ k ∈ keysOf b,∀ j ∈ keysOf b,own k=own j->k=j
def oslE (b:List Item) (own:Int->Nat) (k:Int):LV:=.osl (own k) ((rowOf k b).map a0i)
theorem c2o (b:List Item) (hlen:b.length<=1000000) (H:GH):a0j prog 266 [sl (b.map a0i)] H fun ce H'=>ce=.ret (.fn (.func 279) [] [.gp (H.next+1) 0])/\H.next+2<=H'.next/\(∀ m,m < H.next->H'.obj m=H.obj m) /\
  H'.obj (H.next+1)=some (.box [.gm H.next])/\H'.obj H.next=some (.map (c0q b)):=by
 have cc:=a0g (p:=kds [] [3] [])
 refine a0j.a3a (a0g (p:=kds [] [3] [])) func266 rfl call266 (by rw [ntmps266];simp) rfl fun hf hw=>?_
 simp [ntmps266,results266] at hf |-
 refine AW.seq cc ?_
 simp
 refine AW.seq cc ?_
 simp [GH.a0b,GH.a0a]
 refine ⟨by omega,?_⟩
 obtain ⟨H1,hH1⟩:∃ H1,((H.add (GO.map [])).add (GO.box [LV.d (DV.k (Value.map none))])).set (H.next+1) (GO.box [LV.gm H.next])=H1:=⟨_,rfl⟩
 have n1:H1.next=H.next+2:=by rw [<- hH1];rfl
 have b1:H1.obj (H.next+1)=some (.box [.gm H.next]):=by rw [<- hH1,GH.a0n]
 have m1:H1.obj H.next=some (.map []):=by rw [<- hH1,GH.a0f,if_neg (by omega),GH.a0b,if_neg (by rw [GH.a0a];omega),GH.a0b,if_pos rfl]
 have o1:∀ m,m < H.next->H1.obj m=H.obj m:=fun m hm=>by rw [<- hH1,GH.a0f,if_neg (by omega),GH.a0b,if_neg (by rw [GH.a0a];omega),GH.a0b,if_neg (by omega)]
 rw [hH1]
 clear hH1
 refine AW.seq cc ?_
 simp
 refine AW.a0w cc (fun a:Nat × (Int->Nat) × GH=>⟨[(3,.gp (H.next+1) 0),(7,.d (.sl (b.map a0i))),(8,lvI b.length),(9,lvI a.1)],[],a.2.2⟩) (fun a=>b.length - a.1)
  (fun a=>a.1<=b.length/\KeyR (H.next+2) (b.take a.1) a.2.1 a.2.2/\H.next+2<=a.2.2.next/\a.2.2.obj (H.next+1)=some (.box [.gm H.next])/\a.2.2.obj H.next=some (.map (esI (keysOf (b.take a.1)) (oslE (b.take a.1) a.2.1)))/\∀ m,m < H.next->a.2.2.obj m=H.obj m)
  (0,fun _=>0,H1) ⟨⟨Nat.zero_le _,⟨fun k hk=>by simp [keysOf] at hk,fun k hk=>by simp [keysOf] at hk,fun k hk=>by simp [keysOf] at hk⟩,by simp only;omega,b1,by simpa [keysOf,esI] using m1,o1⟩,by simp⟩ ?_
 rintro ⟨i,own,H2⟩ ⟨hi,hk,n2,b2,m2,o2⟩
 simp only at hi hk n2 b2 m2 o2
 simp
 refine ⟨fun h=>?_,fun h=>?_⟩
 ·obtain ⟨x,hxe⟩:∃ x,b[i]=x:=⟨_,rfl⟩
  have htk:b.take (i+1)=b.take i ++ [x]:=by rw [<- a0p h,hxe]
  simp [h,List.getElem?_eq_getElem h,hxe,a0i]
  obtain ⟨pre,hpre⟩:∃ pre,b.take i=pre:=⟨_,rfl⟩
  rw [hpre] at hk m2 htk
  have hpl:pre.length<=1000000:=by rw [<- hpre];simp;omega
  have hkey:=eq_true (a4y (keysOf pre) (oslE pre own))
  have hget:=a7k x.rec_.key (oslE pre own) (keysOf pre)
  have hput:=fun v=>b3c x.rec_.key v (oslE pre own) (keysOf pre) (a4s pre)
  have hlt1:H.next < H2.next:=by omega
  refine AW.draw cc [] (.q 1<|.q 2<|.q 5<|.q 6<|.q 4<|.q 7<|.q 8<|.q 9<|.q 10<|.f (.cons 0 (.f (.cons 3 (.f<|.one 11<|.f<|.one 12<|.done) (.cons 11 (.q 3<|.f<|.one 12<|.done) (.nil)))) (.cons 3 (.f (.cons 0 (.f<|.one 11<|.f<|.one 12<|.done) (.cons 11 (.q 0<|.f<|.one 12<|.done) (.nil)))) (.cons 11 (.q 0<|.q 3<|.f<|.one 12<|.done) (.nil))))) (by kernel_rfl) ?_
  have hcell:([[.k (.int .i64 x.rec_.at_),.k (.int .i64 x.rec_.key),.k (.int .i64 x.rec_.val),.k (.int .i64 x.n)]]:List (List DV))=[a0i x]:=rfl
  have hrl:∀ j,(rowOf j pre).length<=pre.length:=fun j=>List.length_filter_le _ _
  have hw':=wrap_succ (n:=9223372036854775807) (show i < 9223372036854775807 by omega)
  have hro:∀ j,j ≠ x.rec_.key->rowOf j (pre ++ [x])=rowOf j pre:=fun j q=>by rw [c1u,if_neg (fun e=>q e.symm),List.append_nil]
  have hrk:rowOf x.rec_.key (pre ++ [x])=rowOf x.rec_.key pre ++ [x]:=by rw [c1u,if_pos rfl]
  have hl4:∀ j,∀ r ∈ (rowOf j pre).map a0i,r.length=4:=fun j=>a1b _
  by_cases hin:x.rec_.key ∈ keysOf pre
  ·have hks:keysOf (pre ++ [x])=keysOf pre:=by rw [b2g,if_pos hin]
   obtain ⟨k1,k2⟩:=hk.lo _ hin
   have k3:=hk.ob _ hin
   have k4:=hrl x.rec_.key
   have hne:H.next ≠ own x.rec_.key:=by omega
   have hfin:mput (.int .i64 x.rec_.key) (.osl (own x.rec_.key) ((rowOf x.rec_.key pre).map a0i ++ [a0i x])) (esI (keysOf pre) (oslE pre own))=esI (keysOf (pre ++ [x])) (oslE (pre ++ [x]) own):=by
    rw [hput,if_pos hin,hks]
    refine a7s fun j hj=>?_
    by_cases e:j=x.rec_.key
    ·subst e;rw [if_pos rfl,oslE,hrk,List.map_append];rfl
    ·rw [if_neg e,oslE,oslE,hro j e]
   have m3:∀ X,(H2.set (own x.rec_.key) X).obj H.next=some (.map (esI (keysOf pre) (oslE pre own))):=fun X=>by rw [GH.a0f,if_neg hne];exact m2
   have b3:∀ X,(H2.set (own x.rec_.key) X).obj (H.next+1)=some (.box [.gm H.next]):=fun X=>by rw [GH.a0f,if_neg (by omega)];exact b2
   have hfin2:KeyR (H.next+2) (b.take (i+1)) own ((H2.set (own x.rec_.key) (.arr 86 4 ((rowOf x.rec_.key pre).length+1))).set H.next (.map (esI (keysOf (pre ++ [x])) (oslE (pre ++ [x]) own)))):=by
    rw [htk]
    refine ⟨fun k hk'=>?_,fun k hk'=>?_,fun k hk' j hj'=>?_⟩
    ·rw [hks] at hk';rw [GH.a0l,GH.a0l];exact hk.lo k hk'
    ·rw [hks] at hk'
     have:=hk.lo k hk'
     rw [GH.a0f,if_neg (by omega),GH.a0f]
     by_cases e:k=x.rec_.key
     ·subst e;rw [if_pos rfl,hrk];simp
     ·rw [if_neg (fun q=>e (hk.inj k hk' _ hin q)),hro k e];exact hk.ob k hk'
    ·rw [hks] at hk' hj';exact hk.inj k hk' j hj'
   obtain ⟨H3,hH3⟩:∃ H3,(H2.set (own x.rec_.key) (.arr 86 4 ((rowOf x.rec_.key pre).length+1))).set H.next (.map (esI (keysOf (pre ++ [x])) (oslE (pre ++ [x]) own)))=H3:=⟨_,rfl⟩
   have n4:H3.next=H2.next:=by rw [<- hH3];rfl
   have b4:H3.obj (H.next+1)=some (.box [.gm H.next]):=by rw [<- hH3,GH.a0f,if_neg (by omega)];exact b3 _
   have m4:H3.obj H.next=some (.map (esI (keysOf (b.take (i+1))) (oslE (b.take (i+1)) own))):=by rw [<- hH3,htk,GH.a0n]
   have o4:∀ m,m < H.next->H3.obj m=H.obj m:=fun m hm=>by rw [<- hH3,GH.a0f,if_neg (by omega),GH.a0f,if_neg (by omega)];exact o2 m hm
   rw [hH3] at hfin2
   simp [b2,m2,hget,hkey,hin,oslE]
   refine ⟨⟨?_,?_⟩,⟨?_,?_⟩,?_⟩
   all_goals
    refine APK.ev ?_
    simp [k3,hcell,m3,b3,hfin,hkey,hl4,hH3]
    exact ⟨⟨by omega,by omega⟩,by rw [GH.a0l];omega,NX.go (i+1,own,H3) (by simp only;omega) ⟨h,hfin2,by simp only;omega,b4,m4,o4⟩ (by simp [hw'])⟩
  ·have hks:keysOf (pre ++ [x])=keysOf pre ++ [x.rec_.key]:=by rw [b2g,if_neg hin]
   have hr0:rowOf x.rec_.key pre=[]:=by
    rw [rowOf,List.filter_eq_nil_iff]
    intro y hy q
    exact hin (a7m.2 ⟨y,hy,by simpa using q⟩)
   obtain ⟨own',hown⟩:∃ own':Int->Nat,own'=fun j=>if j=x.rec_.key then H2.next else own j:=⟨_,rfl⟩
   have hok:own' x.rec_.key=H2.next:=by rw [hown];simp
   have hoj:∀ j,j ≠ x.rec_.key->own' j=own j:=fun j q=>by rw [hown];simp [q]
   have hfin:mput (.int .i64 x.rec_.key) (.osl H2.next [a0i x]) (esI (keysOf pre) (oslE pre own))=esI (keysOf (pre ++ [x])) (oslE (pre ++ [x]) own'):=by
    rw [hput,if_neg hin,hks]
    refine a7s fun j hj=>?_
    by_cases e:j=x.rec_.key
    ·subst e;rw [if_pos rfl,oslE,hrk,hr0,hok];rfl
    ·rw [if_neg e,oslE,oslE,hro j e,hoj j e]
   have m3:∀ X,(H2.add X).obj H.next=some (.map (esI (keysOf pre) (oslE pre own))):=fun X=>by rw [GH.a0b,if_neg (by omega)];exact m2
   have b3:∀ X,(H2.add X).obj (H.next+1)=some (.box [.gm H.next]):=fun X=>by rw [GH.a0b,if_neg (by omega)];exact b2
   have hfin2:KeyR (H.next+2) (b.take (i+1)) own' ((H2.add (.arr 86 4 1)).set H.next (.map (esI (keysOf (pre ++ [x])) (oslE (pre ++ [x]) own')))):=by
    rw [htk]
    refine ⟨fun k hk'=>?_,fun k hk'=>?_,fun k hk' j hj'=>?_⟩
    ·rw [GH.a0l,GH.a0a]
     by_cases e:k=x.rec_.key
     ·subst e;rw [hok];omega
     ·rw [hoj k e]
      rw [hks] at hk'
      have:=hk.lo k ((List.mem_append.1 hk').resolve_right (by simpa using e))
      omega
    ·by_cases e:k=x.rec_.key
     ·subst e;rw [hok,GH.a0f,if_neg (by omega),GH.a0b,if_pos rfl,hrk,hr0];rfl
     ·rw [hks] at hk'
      have hk2:=(List.mem_append.1 hk').resolve_right (by simpa using e)
      have:=hk.lo k hk2
      rw [hoj k e,GH.a0f,if_neg (by omega),GH.a0b,if_neg (by omega),hro k e];exact hk.ob k hk2
    ·rw [hks] at hk' hj'
     intro q
     by_cases e:k=x.rec_.key
     ·by_cases e2:j=x.rec_.key
      ·rw [e,e2]
      ·have:=hk.lo j ((List.mem_append.1 hj').resolve_right (by simpa using e2))
       rw [e,hok,hoj j e2] at q;omega
     ·have k2:=(List.mem_append.1 hk').resolve_right (by simpa using e)
      have:=hk.lo k k2
      by_cases e2:j=x.rec_.key
      ·rw [e2,hok,hoj k e] at q;omega
      ·rw [hoj k e,hoj j e2] at q
       exact hk.inj k k2 j ((List.mem_append.1 hj').resolve_right (by simpa using e2)) q
   obtain ⟨H3,hH3⟩:∃ H3,(H2.add (.arr 86 4 1)).set H.next (.map (esI (keysOf (pre ++ [x])) (oslE (pre ++ [x]) own')))=H3:=⟨_,rfl⟩
   have n4:H3.next=H2.next+1:=by rw [<- hH3];rfl
   have b4:H3.obj (H.next+1)=some (.box [.gm H.next]):=by rw [<- hH3,GH.a0f,if_neg (by omega)];exact b3 _
   have m4:H3.obj H.next=some (.map (esI (keysOf (b.take (i+1))) (oslE (b.take (i+1)) own'))):=by rw [<- hH3,htk,GH.a0n]
   have o4:∀ m,m < H.next->H3.obj m=H.obj m:=fun m hm=>by rw [<- hH3,GH.a0f,if_neg (by omega),GH.a0b,if_neg (by omega)];exact o2 m hm
   rw [hH3] at hfin2
   have ha:H.next < (H2.add (.arr 86 4 1)).next:=by rw [GH.a0a];omega
   have hb':H2.next < (H2.add (.arr 86 4 1)).next:=by rw [GH.a0a];omega
   simp [b2,m2,hget,hkey,hin]
   refine ⟨⟨?_,?_⟩,⟨?_,?_⟩,?_⟩
   all_goals
    refine APK.ev ?_
    simp [hcell,m3,b3,hfin,hkey,LV.nb,hH3,ha,hb']
    exact NX.go (i+1,own',H3) (by simp only;omega) ⟨h,hfin2,by simp only;omega,b4,m4,o4⟩ (by simp [hw'])
 ·have e:i=b.length:=by omega
  subst e
  rw [List.take_length] at hk m2
  refine AW.f6k H.next _ m2 ?_
  have hfz:fzE (esI (keysOf b) (oslE b own))=c0q b:=by
   simp only [fzE,esI,c0q,List.map_map]
   refine List.map_congr_left fun k hk'=>?_
   simp [oslE,rowE,fz]
  rw [hfz]
  refine AW.ev cc ?_
  simp
  exact fun hz=>⟨_,hz.drop (by rw [GH.a0l];omega),by rw [GH.a0l];omega,by rw [GH.a0l];omega,fun m hm=>by rw [GH.a0f,if_neg (by omega)];exact o2 m hm,by rw [GH.a0f,if_neg (by omega)];exact b2,GH.a0n⟩
end Go.Aft
end
section
set_option maxRecDepth 20000
namespace Go.Aft
open Go.Proofs.Tryz
def itO (m:Nat) (es:List (Value × LV)) (seen:List Nat):GO:=.iter m es.length seen es.length
theorem a2v.nbZ {P:Program} {n:Nat} {args:List LV} {H:GH} {R:CE->GH->Prop} (h:nbH H->a2v P n args H R):a2v P n args H R:=fun G w vs hM hNL hargs =>
 h ⟨fun n hn=>by
  cases ho:H.obj n with
  | none=>rfl
  | some o=>have:=(hM.nmd n o ho).1;omega,fun n o ho=>d4o (hM.nmd n o ho).2⟩ G w vs hM hNL hargs
theorem e2j {b:List Item} {i:Nat} {e:Value × LV} (h:(c0q b)[i]?=some e):∃ k,(keysOf b)[i]?=some k/\e=(.int .i64 k,sl ((rowOf k b).map a0i)):=by
 simp only [c0q,esI,List.getElem?_map,Option.map_eq_some_iff] at h
 obtain ⟨k,h1,h2⟩:=h
 exact ⟨k,h1,h2.symm⟩
@[simp] theorem rowsM_len (b:List Item):(c0q b).length=(keysOf b).length:=by simp [c0q,esI]
theorem b8u {n nb m:Nat} {b:List Item} {H0:GH} {J:List Nat->GO->GH->Prop} (hnb:H0.obj nb=some (.box [.gm m])) (hm:H0.obj m=some (.map (c0q b)))
  (h0:∀ X,J [] X (H0.add X)) (hst:∀ seen X Y H,J seen X H->J seen Y (H.set H0.next Y)) (hob:∀ seen X H,J seen X H->H0.next < H.next/\H.obj H0.next=some X/\H.obj m=some (.map (c0q b)))
  (hstep:∀ seen i k X H,(keysOf b)[i]?=some k->i ∉ seen->(∀ i ∈ seen,i < (keysOf b).length)->nbH H->J seen X H->a2v prog n [lvI k,sl ((rowOf k b).map a0i)] H fun ce H'=>ce=.ret (bool true)/\J (seen ++ [i]) X H') :
  a0j prog 279 [.yl n,.gp nb 0] H0 fun ce H'=>(∃ v,ce=.ret v)/\∃ seen X,seen.Nodup/\(∀ i ∈ seen,i < (keysOf b).length)/\(∀ i,i < (keysOf b).length->i ∈ seen)/\J seen X H':=by
 have cc:=a0g (p:=kds [] [] [])
 refine a0j.a3a (a0g (p:=kds [] [] [])) func279 rfl call279 (by rw [ntmps279];simp) rfl fun hf hw=>?_
 have hmn:=hw.lt hm
 have hnn:=hw.lt hnb
 obtain ⟨es,hes⟩:∃ es,c0q b=es:=⟨_,rfl⟩
 have hel:es.length=(keysOf b).length:=by rw [<- hes,rowsM_len]
 have hkeys:es.all (fun e=>b4w e.1)=true:=by rw [<- hes];exact List.all_eq_true.2 fun e he=>by obtain ⟨x,_,q⟩:=List.mem_map.1 he;rw [<- q];rfl
 rw [hes] at hm hob
 rw [<- hel] at hstep |-
 simp [ntmps279,results279]
 refine AW.seq cc ?_
 simp [hnb,hm]
 refine AW.block (c:=cxK (kds [] [] [])) ?_
 refine AW.a0w cc (fun a:List Nat × GH=>⟨[(0,.yl n),(6,.gp H0.next 0)],[],a.2⟩) (fun a=>unm es.length (fun i=>decide (i ∈ a.1)))
  (fun a=>a.1.Nodup/\(∀ i ∈ a.1,i < es.length)/\J a.1 (itO m es a.1) a.2) ([],H0.add (itO m es [])) ⟨⟨by simp,by simp,h0 _⟩,by simp [itO]⟩ ?_
 rintro ⟨seen,H2⟩ ⟨s1,s2,hj⟩
 simp only at s1 s2 hj
 obtain ⟨b1,oi,om⟩:=hob _ _ _ hj
 simp
 refine ST.next (n:=H0.next) (m:=m) (seen:=seen) (es:=es) (by simp) oi om (by simp) rfl rfl hkeys (fun i e he hi=>?_) (fun hend=>?_)
 ·have hi':=(List.getElem?_eq_some_iff.1 he).1
  have hj3:=hst _ _ (itO m es (seen ++ [i])) _ hj
  obtain ⟨k,hk,rfl⟩:=e2j (by rw [hes];exact he)
  simp
  refine ST.entry (n:=H0.next) (m:=m) (seen:=seen ++ [i]) (es:=es) (i:=i) (e:=_) (by simp) (by rw [GH.a0n]) (by rw [GH.a0f,if_neg (by omega)];exact om) (by simp) rfl hkeys (by simp) he ?_
  obtain ⟨H3,hH3⟩:∃ H3,H2.set H0.next (GO.iter m es.length (seen ++ [i]) es.length)=H3:=⟨_,rfl⟩
  rw [show H2.set H0.next (itO m es (seen ++ [i]))=H3 from hH3] at hj3
  have hy:=a2v.nbZ fun hz=>hstep seen i k _ H3 hk hi s2 hz hj3
  have hsn:(seen ++ [i]).Nodup:=by
   rw [List.nodup_append]
   exact ⟨s1,by simp,fun a ha b hb=>by simp at hb;subst hb;intro q;subst q;exact hi ha⟩
  have hmea:unm es.length (fun j=>decide (j ∈ seen ++ [i])) < unm es.length (fun j=>decide (j ∈ seen)):=by
   have:=b2n (n:=es.length) (M:=fun j=>decide (j ∈ seen)) hi' (by simpa using hi)
   have e2:a4q (fun j=>decide (j ∈ seen)) i=fun j=>decide (j ∈ seen ++ [i]):=by
    funext j;simp only [a4q];by_cases q:j=i <;> simp [q]
   rw [e2] at this;exact this
  have hall:∀ j ∈ seen ++ [i],j < es.length:=fun j hj=>by
   rcases List.mem_append.1 hj with q | q
   ·exact s2 j q
   ·simp at q;subst q;exact hi'
  simp [hH3,b4x]
  refine EY.of hy (fun v H4 hR=>?_) (fun x H4 hR=>by obtain ⟨q,_⟩:=hR;cases q)
  obtain ⟨q,hj4⟩:=hR
  cases q
  simp
  exact NX.go (seen ++ [i],H4) hmea ⟨hsn,hall,hj4⟩ (by simp [itO])
 ·simp
  exact fun hz=>⟨H2,hz.drop (by omega),seen,s1,s2,by simpa using hend,_,hj⟩
end Go.Aft
end
