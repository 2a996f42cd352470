import Derived.Test.YthinedikejlgmaaGreatA33
set_option linter.all false
section
set_option maxRecDepth 20000
namespace Go.Aft
open Go.Proofs.Tryz
def Keeps (P:Program) (f:FuncId) (args:List LV) (H:GH) (v:LV):Prop:=∀ H',H.next<=H'.next->(∀ m,m < H.next->H'.obj m=H.obj m)->ECall P f args H' fun ce H2=>ce=.ret v/\H2=H'
theorem AFun.keeps {P:Program} {f:FuncId} {args:List LV} {v:LV} (h:AFun P f args v) (H:GH):Keeps P f args H v:=fun H' _ _=>h H'
theorem mean_changed (g:Item->Item) (l:List Item) (hl:l.length<=1000000) (F:FuncId) (cap:List LV) (H:GH) (hcap:nbs H.next cap) (hF:∀ x ∈ l,Keeps prog F ([lv (rItem x)] ++ cap) H (lv (rItem (g x)))) :
  ECall prog 226 [sl (l.map rItem),.fn (.func F) [] cap] H fun ce H'=>ce=.ret (sl ((l.map g).map rItem))/\H'=H:=by
 have cc:=cx0_ok
 refine ECall.bodyN cx0_ok func226 rfl call226 (by rw [ntmps226];simp) rfl fun hf hw=>?_
 simp [ntmps226,results226] at hf |-
 refine AW.loopS cc (fun a:Nat × LV × GH=>⟨[(1,.fn (.func F) [] cap),(5,a.2.1),(8,.d (.sl (l.map rItem))),(9,lvI l.length),(10,lvI a.1)],[],a.2.2⟩) (fun a=>l.length - a.1) (fun a=>a.1<=l.length/\AppX 86 4 H a.2.1 (((l.take a.1).map g).map rItem) a.2.2) (0,.d (.k (.slice none 0 0)),H) ⟨⟨by simp,.nil⟩,by simp [LV.only,onlys,nbs_only _ hcap]⟩ ?_
 rintro ⟨i,x,H'⟩ ⟨hi,happ⟩
 simp only at hi happ
 simp
 refine ⟨fun h=>?_,fun h=>?_⟩
 ·have hd:=hF l[i] (List.getElem_mem h) H' happ.nx happ.ob
  simp [rItem] at hd
  simp [h,List.getElem?_eq_getElem h,rItem,happ.plain.all]
  refine ⟨nbs_mono happ.nx _ hcap,EC.of hd (fun v H2 hR=>?_) (fun v H2 hR=>by cases hR.1)⟩
  obtain ⟨q,rfl⟩:=hR
  cases q
  simp [happ.plain.all]
  refine APK.appX (ys:=[rItem (g l[i])]) tyE29 rfl tyE86 (by simp) (x:=x) (by simp) happ (by simp [rItem,rowsOf]) (by simp) (rItem_all _) (fun r hr=>by simp only [List.mem_singleton] at hr;subst hr;rfl) (by simp;omega) (by simp) fun x' H3 happ' _ _=>?_
  rw [show ((l.take i).map g).map rItem ++ [rItem (g l[i])]=((l.take (i+1)).map g).map rItem by rw [<- take_more h,List.map_append,List.map_append];rfl] at happ'
  simp [happ'.plain.all,happ'.only,wrap_succ (n:=9223372036854775807) (show i < 9223372036854775807 by omega)]
  exact NX.go (i+1,x',H3) (by simp;omega) ⟨h,happ'⟩ (by simp [happ'.only,happ'.plain.all,LV.only,onlys,nbs_only _ hcap,rItem])
 ·have:i=l.length:=by omega
  subst this
  rw [List.take_length] at happ
  simp [happ.plain.all,happ.fz]
  exact fun hz=>Drop_same happ.nx happ.ob hw.none
theorem mean_later1 (x:Item) (n:Int) (h:-1000000000<=x.rec_.at_+n/\x.rec_.at_+n<=1000000000):AFun prog 264 [lv (rItem x),.ip [lvI n] 0] (lv (rItem ⟨⟨x.rec_.at_+n,x.rec_.key,x.rec_.val⟩,x.n⟩)):=by
 refine AFun.body (cxK_ok (p:=kds [] [] [])) func264 rfl call264 (by rw [ntmps264];simp) rfl fun hf H=>?_
 have hw:IntKind.wrap .i64 (x.rec_.at_+n)=x.rec_.at_+n:=by rw [wrap64] <;> omega
 simp [ntmps264,results264,rItem,hw]
theorem mean_later (l:List Item) (n:Int) (hl:l.length<=1000000) (h:∀ x ∈ l,-1000000000<=x.rec_.at_+n/\x.rec_.at_+n<=1000000000):AFun prog 224 [sl (l.map rItem),lvI n] (sl ((laterM n l).map rItem)):=by
 intro H
 have hc:=mean_changed (fun x=>⟨⟨x.rec_.at_+n,x.rec_.key,x.rec_.val⟩,x.n⟩) l hl 264 [.ip [lvI n] 0] H (by simp [nbs,LV.nb]) (fun x hx=>(mean_later1 x n (h x hx)).keeps H)
 refine ECall.bodyN (cxK_ok (p:=kds [3] [] [])) func224 rfl call224 (by rw [ntmps224];simp) rfl fun hf hw=>?_
 simp at hc
 simp [ntmps224,results224]
 refine EC.of hc (fun v H2 hR=>?_) (fun v H2 hR=>by cases hR.1)
 obtain ⟨q,rfl⟩:=hR
 cases q
 simp
 exact fun hz=>⟨hz.drop (Nat.le_refl _),by rw [laterM,List.map_map]⟩
theorem mean_once1 (x:Item):AFun prog 235 [lv (rItem x)] (lv (rItem ⟨x.rec_,1⟩)):=by
 refine AFun.body (cxK_ok (p:=kds [1] [] [])) func235 rfl call235 (by rw [ntmps235];simp) rfl fun hf H=>?_
 simp [ntmps235,results235,rItem]
def spV (o:Option (Int × Int)):LV:=match o with | some (a,b)=>.tup [lvI a,lvI b,.d (.k (.bool true))] | none=>.tup [lvI 0,lvI 0,.d (.k (.bool false))]
def ipE (e:Exp):LV:=.ip ((rExp e).map .d) 0
theorem mean_group1 (e:Exp) (l:List Item) (t:Int) (hn:1<=e.n/\e.n<=50) (ht:0<=t/\t<=200):AFun prog 229 [sl (l.map rItem),lvI t,ipE e] (spV (groupS e.n l t)):=by
 refine AFun.body (cxK_ok (p:=kds [] [] [])) func229 rfl call229 (by rw [ntmps229];simp) rfl fun hf H=>?_
 have cc:=cxK_ok (p:=kds [] [] [])
 have hn0:e.n ≠ 0:=by omega
 have hq0:0<=t.tdiv e.n * e.n/\t.tdiv e.n * e.n<=200:=by
  have h1:=Int.tmod_add_mul_tdiv t e.n
  have h2:0<=t.tmod e.n:=Int.tmod_nonneg _ ht.1
  have h3:0<=t.tdiv e.n:=Int.tdiv_nonneg ht.1 (by omega)
  have h4:0<=t.tdiv e.n * e.n:=Int.mul_nonneg h3 (by omega)
  rw [Int.mul_comm] at h1
  omega
 have hq1:0<=t.tdiv e.n/\t.tdiv e.n<=200:=⟨Int.tdiv_nonneg ht.1 (by omega),Int.le_trans (Int.tdiv_le_self _ ht.1) ht.2⟩
 have w1:IntKind.wrap .i64 (t.tdiv e.n)=t.tdiv e.n:=by rw [wrap64] <;> omega
 have w2:IntKind.wrap .i64 (t.tdiv e.n * e.n)=t.tdiv e.n * e.n:=by rw [wrap64] <;> omega
 have w3:IntKind.wrap .i64 (t.tdiv e.n * e.n+e.n)=t.tdiv e.n * e.n+e.n:=by rw [wrap64] <;> omega
 have w4:IntKind.wrap .i64 (t.tdiv e.n * e.n+e.n - 1)=t.tdiv e.n * e.n+e.n - 1:=by rw [wrap64] <;> omega
 simp [ntmps229,results229,ipE,rExp_eq]
 refine AW.draw cc [] (.q 0<|.q 1<|.q 4<|.q 2<|.q 3<|.q 5<|.q 6<|.q 7<|.done) (by kernel_rfl) ?_
 simp [hn0,w1,w2]
 refine AW.draw cc [] (.q 0<|.q 1<|.q 2<|.q 6<|.q 3<|.q 4<|.q 5<|.q 7<|.q 8<|.done) (by kernel_rfl) ?_
 simp [w3,w4,spV,groupS]
theorem mean_slide1 (e:Exp) (l:List Item) (t:Int) (hn:0<=e.n/\e.n<=50) (ht:0<=t/\t<=200):AFun prog 230 [sl (l.map rItem),lvI t,ipE e] (spV (slideS e.n l t)):=by
 refine AFun.body (cxK_ok (p:=kds [] [] [])) func230 rfl call230 (by rw [ntmps230];simp) rfl fun hf H=>?_
 have w1:IntKind.wrap .i64 (t - e.n)=t - e.n:=by rw [wrap64] <;> omega
 simp [ntmps230,results230,ipE,rExp_eq,w1,spV,slideS]
theorem mean_total1 (l:List Item) (t:Int):AFun prog 231 [sl (l.map rItem),lvI t] (spV (totalS l t)):=by
 refine AFun.body (cxK_ok (p:=kds [] [] [])) func231 rfl call231 (by rw [ntmps231];simp) rfl fun hf H=>?_
 simp [ntmps231,results231,spV,totalS]
theorem within_mem {low high:Int} {l:List Item} {x:Item} (h:x ∈ withinM low high l):x ∈ l:=by
 unfold withinM fromM at h
 exact (List.dropWhile_sublist _).mem ((List.takeWhile_sublist _).mem h)
def IncT (l:List Item):Prop:=l.Pairwise fun a b=>a.rec_.at_<=b.rec_.at_
theorem from_low {low:Int}:∀ {l:List Item},IncT l->∀ x ∈ fromM low l,low<=x.rec_.at_
 | [],_,x,hx=>by simp [fromM] at hx
 | y :: l,h,x,hx=>by
  have h':=List.pairwise_cons.1 h
  simp only [fromM] at hx
  rw [List.dropWhile_cons] at hx
  split at hx
  ·exact from_low h'.2 x hx
  ·rename_i q
   have q':low<=y.rec_.at_:=by simpa using q
   rcases List.mem_cons.1 hx with e | e
   ·rw [e];exact q'
   ·exact Int.le_trans q' (h'.1 x e)
theorem within_in {low high:Int} {l:List Item} (h:IncT l) {x:Item} (hx:x ∈ withinM low high l):low<=x.rec_.at_/\x.rec_.at_<=high:=by
 unfold withinM at hx
 exact ⟨from_low h x ((List.takeWhile_sublist _).mem hx),by have:=List.all_eq_true.1 (List.all_takeWhile (p:=fun x:Item=>decide (x.rec_.at_<=high)) (l:=fromM low l)) x hx;simpa using this⟩
theorem lowS_stop {n:Int} {l:List Item}:∀ (k:Nat) (t:Int),withinM (t - n) (t - 1) l=[]->lowS n l k t=t
 | 0,t,h=>rfl
 | k+1,t,h=>by rw [lowS,h]
theorem mean_rest1 (e:Exp) (l:List Item) (t:Int) (hn:1<=e.n/\e.n<=50) (ht:0<=t/\t<=200) (hl:IncT l) (hb:∀ x ∈ l,0<=x.rec_.at_/\x.rec_.at_<=200):AFun prog 232 [sl (l.map rItem),lvI t,ipE e] (spV (restS e.n l t)):=by
 refine AFun.body (cxK_ok (p:=kds [] [] [])) func232 rfl call232 (by rw [ntmps232];simp) rfl fun hf H=>?_
 have cc:=cxK_ok (p:=kds [] [] [])
 have wi:=fun a b=>mean_within l a b
 have w1:IntKind.wrap .i64 (t+1)=t+1:=by rw [wrap64] <;> omega
 have w2:IntKind.wrap .i64 (t+e.n)=t+e.n:=by rw [wrap64] <;> omega
 have w3:∀ u:Int,0<=u->u<=200->IntKind.wrap .i64 (u - e.n)=u - e.n:=fun u a b=>by rw [wrap64] <;> omega
 have w4:∀ u:Int,0<=u->u<=200->IntKind.wrap .i64 (u - 1)=u - 1:=fun u a b=>by rw [wrap64] <;> omega
 simp at wi
 simp [ntmps232,results232,ipE,rExp_eq,w1,w2,w3 t ht.1 ht.2,w4 t ht.1 ht.2]
 refine EC.afun (wi _ _) ?_
 simp
 refine ⟨fun h=>?_,fun h=>?_⟩
 ·have:restS e.n l t=none:=by
   unfold restS
   cases hq:withinM (t+1) (t+e.n) l with
   | nil=>rw [hq] at h;simp at h
   | cons a b=>rfl
  simp [this,spV]
 ·have hnil:withinM (t+1) (t+e.n) l=[]:=by
   cases hq:withinM (t+1) (t+e.n) l with
   | nil=>rfl
   | cons a b=>rw [hq] at h;simp at h;try omega
  have hrs:restS e.n l t=some (lowS e.n l 201 t,t):=by unfold restS;rw [hnil]
  refine EC.afun (wi _ _) ?_
  simp
  refine AW.loopS cc (fun u:Nat × Int=>⟨[(0,.d (.sl (l.map rItem))),(1,lvI t),(2,ipE e),(8,lvI u.2),(9,.d (.sl ((withinM (u.2 - e.n) (u.2 - 1) l).map rItem)))],[],H⟩) (fun u=>u.2.toNat)
   (fun u=>0<=u.2/\u.2<=200/\u.2<=(u.1:Int)/\lowS e.n l u.1 u.2=lowS e.n l 201 t) (201,t) ⟨⟨ht.1,ht.2,by simp;omega,rfl⟩,by simp [ipE,rExp_eq,w3 t ht.1 ht.2,w4 t ht.1 ht.2]⟩ ?_
  rintro ⟨k,u⟩ ⟨h1,h2,h3,h4⟩
  simp only at h1 h2 h3 h4
  simp
  refine ⟨fun q=>?_,fun q=>?_⟩
  ·obtain ⟨x,r,hx⟩:∃ x r,withinM (u - e.n) (u - 1) l=x :: r:=by
    cases hq:withinM (u - e.n) (u - 1) l with
    | nil=>rw [hq] at q;simp at q;try omega
    | cons a b=>exact ⟨a,b,rfl⟩
   have hxl:=hb x (within_mem (by rw [hx];simp))
   have hxi:=within_in hl (x:=x) (low:=u - e.n) (high:=u - 1) (by rw [hx];simp)
   obtain ⟨k',rfl⟩:∃ k',k=k' + 1:=⟨k - 1,by omega⟩
   have h5:lowS e.n l k' x.rec_.at_=lowS e.n l 201 t:=by rw [<- h4,lowS,hx]
   simp [hx,rItem,ipE,rExp_eq,w3 _ hxl.1 hxl.2,w4 _ hxl.1 hxl.2]
   refine EC.afun (wi _ _) ?_
   simp
   exact NX.go (k',x.rec_.at_) (by simp only;omega) ⟨hxl.1,hxl.2,by omega,h5⟩ (by simp [ipE,rExp_eq])
  ·have hnil2:withinM (u - e.n) (u - 1) l=[]:=by
    cases hq:withinM (u - e.n) (u - 1) l with
    | nil=>rfl
    | cons a b=>rw [hq] at q;simp at q;try omega
   rw [lowS_stop k u hnil2] at h4
   simp [hrs,spV,h4]
end Go.Aft
end
section
set_option maxRecDepth 20000
namespace Go.Aft
open Go.Proofs.Tryz
def fzE (es:List (Value × LV)):List (Value × LV):=es.map fun e=>(e.1,fz e.2)
theorem fzs_map:∀ l:List LV,fzs l=l.map fz
 | []=>rfl
 | x :: l=>by rw [fzs,List.map_cons,fzs_map l]
theorem AW.fzMap {P:Program} {rd:RD} {x:Code} {s:S} {Q:QT} (n:Nat) (es:List (Value × LV)) (hn:s.H.obj n=some (.map es)) (h:@AW P rd ⟨x⟩ { s with H:=s.H.set n (.map (fzE es)) } Q):@AW P rd ⟨x⟩ s Q:=by
 refine fun E a w hs=>h E a w ?_
 obtain ⟨h2,G,lm,h1,hM,hx,henv,he⟩:=hs
 refine ⟨h2,G,lm,h1,⟨hM.imm,fun b o v hv=>?_,hM.fresh,hM.lmL,hM.loc,fun m o ho=>?_⟩,⟨⟨hx.le,hx.nx,hx.os,hx.tape,hx.output,hx.drawn,hx.size,hx.frame,hx.own⟩,hx.nl⟩,henv,he⟩
 ·rcases hM.immOwn b o v hv with q | ⟨m,e,sz,k,q1,q2,q3⟩
  ·exact .inl q
  ·refine .inr ⟨m,e,sz,k,q1,?_,q3⟩
   rw [GH.set_obj,if_neg]
   ·exact q2
   ·intro q;subst q;rw [hn] at q2;cases q2
 ·rw [GH.set_obj] at ho
  split at ho
  ·rename_i e
   subst e
   cases ho
   obtain ⟨r1,r2,xs,c,r3,r4⟩:=hM.nmd _ _ hn
   obtain ⟨t1,t2,t3,t4⟩:=r4
   refine ⟨r1,r2,xs,c,r3,?_,?_,t3,t4⟩
   ·rw [t1];simp [fzE]
   ·have:=LRs_fz _ _ t2
    rw [fzs_map] at this
    simp only [fzE,List.map_map,GH.set_next] at this |-
    exact this
  ·exact hM.nmd m o ho
def esI (ks:List Int) (f:Int->LV):List (Value × LV):=ks.map fun j=>(Value.int .i64 j,f j)
theorem mfind_esI (k:Int) (f:Int->LV):∀ ks:List Int,mfind (.int .i64 k) (esI ks f)=if k ∈ ks then some (f k) else none
 | []=>rfl
 | j :: ks=>by
  have ih:=mfind_esI k f ks
  simp only [esI,List.map_cons,mfind,kEq_int] at ih |-
  by_cases e:k=j
  ·simp [e]
  ·simp only [e,decide_false,Bool.false_eq_true,if_false,ih,List.mem_cons,false_or]
theorem esI_congr {ks:List Int} {f g:Int->LV} (h:∀ k ∈ ks,f k=g k):esI ks f=esI ks g:=List.map_congr_left fun k hk=>by rw [h k hk]
theorem mput_esI (k:Int) (v:LV) (f:Int->LV):∀ ks:List Int,ks.Nodup->mput (.int .i64 k) v (esI ks f)=esI (if k ∈ ks then ks else ks ++ [k]) (fun j=>if j=k then v else f j)
 | [],_=>by simp [esI,mput]
 | j :: ks,hn=>by
  have hn':=List.nodup_cons.1 hn
  have ih:=mput_esI k v f ks hn'.2
  simp only [esI,List.map_cons,mput,kEq_int] at ih |-
  by_cases e:k=j
  ·subst e
   simp only [decide_true,if_true,List.mem_cons,true_or,List.map_cons]
   refine congrArg _ (List.map_congr_left fun i hi=>?_)
   rw [if_neg (fun q=>hn'.1 (by rw [<- q];exact hi))]
  ·simp only [e,decide_false,Bool.false_eq_true,if_false,ih,List.mem_cons,false_or]
   by_cases e2:k ∈ ks
   ·simp only [e2,if_true,List.map_cons]
    rw [if_neg (fun q=>e q.symm)]
   ·simp only [e2,if_false,List.cons_append,List.map_cons]
    rw [if_neg (fun q=>e q.symm)]
theorem esI_key (ks:List Int) (f:Int->LV):∀ (a:Value) (b:LV),(a,b) ∈ esI ks f->(KK.sc (Sc.int .i64)).has a=true:=fun a b h=>by
 obtain ⟨x,_,q⟩:=List.mem_map.1 h
 cases q;rfl
theorem keysOf_mem {k:Int}:∀ {l:List Item},k ∈ keysOf l ↔ ∃ x ∈ l,x.rec_.key=k
 | []=>by simp [keysOf]
 | x :: l=>by
  have ih:=keysOf_mem (k:=k) (l:=l)
  rw [keysOf,List.mem_cons,List.mem_filter,ih]
  constructor
  ·rintro (q | ⟨⟨y,h1,h2⟩,_⟩)
   ·exact ⟨x,by simp,q.symm⟩
   ·exact ⟨y,by simp [h1],h2⟩
  ·rintro ⟨y,h1,h2⟩
   by_cases e:k=x.rec_.key
   ·exact .inl e
   ·rcases List.mem_cons.1 h1 with q | q
    ·exact absurd (by rw [<- h2,q]) e
    ·exact .inr ⟨⟨y,q,h2⟩,by simpa using e⟩
theorem keysOf_nodup:∀ l:List Item,(keysOf l).Nodup
 | []=>.nil
 | x :: l=>by
  rw [keysOf]
  exact List.nodup_cons.2 ⟨fun h=>by simpa using (List.mem_filter.1 h).2,(keysOf_nodup l).filter _⟩
theorem keysOf_snoc (x:Item):∀ l:List Item,keysOf (l ++ [x])=if x.rec_.key ∈ keysOf l then keysOf l else keysOf l ++ [x.rec_.key]
 | []=>by simp [keysOf]
 | y :: l=>by
  rw [List.cons_append,keysOf,keysOf,keysOf_snoc x l]
  by_cases e:x.rec_.key=y.rec_.key
  ·rw [if_pos (show x.rec_.key ∈ y.rec_.key :: _ by rw [e];exact List.mem_cons_self ..)]
   split
   ·rfl
   ·rw [List.filter_append,List.filter_cons,if_neg (by simp [e]),List.filter_nil,List.append_nil]
  ·by_cases h:x.rec_.key ∈ keysOf l
   ·have h2:x.rec_.key ∈ y.rec_.key :: (keysOf l).filter fun k=>decide (k ≠ y.rec_.key):=List.mem_cons.2 (.inr (List.mem_filter.2 ⟨h,by simpa using e⟩))
    rw [if_pos h2,if_pos h]
   ·have h2:¬ x.rec_.key ∈ y.rec_.key :: (keysOf l).filter fun k=>decide (k ≠ y.rec_.key):=fun q=>by
     rcases List.mem_cons.1 q with q | q
     ·exact e q
     ·exact h (List.mem_filter.1 q).1
    rw [if_neg h2,if_neg h,List.filter_append,List.filter_cons,if_pos (by simpa using e)]
    rfl
theorem rowOf_snoc (k:Int) (x:Item) (l:List Item):rowOf k (l ++ [x])=rowOf k l ++ (if x.rec_.key=k then [x] else []):=by
 unfold rowOf
 rw [List.filter_append,List.filter_cons]
 by_cases e:x.rec_.key=k <;> simp [e]
def rowE (b:List Item) (k:Int):LV:=sl ((rowOf k b).map rItem)
def rowsM (b:List Item):List (Value × LV):=esI (keysOf b) (rowE b)
structure KeyR (N:Nat) (b:List Item) (own:Int->Nat) (H:GH):Prop where
 lo:∀ k ∈ keysOf b,N<=own k/\own k < H.next
 ob:∀ k ∈ keysOf b,H.obj (own k)=some (.arr 86 4 (rowOf k b).length)
 inj:∀ k ∈ keysOf b,∀ j ∈ keysOf b,own k=own j->k=j
def oslE (b:List Item) (own:Int->Nat) (k:Int):LV:=.osl (own k) ((rowOf k b).map rItem)
theorem mean_keyed (b:List Item) (hlen:b.length<=1000000) (H:GH):ECall prog 266 [sl (b.map rItem)] H fun ce H'=>ce=.ret (.fn (.func 279) [] [.gp (H.next+1) 0])/\H.next+2<=H'.next/\(∀ m,m < H.next->H'.obj m=H.obj m) /\
  H'.obj (H.next+1)=some (.box [.gm H.next])/\H'.obj H.next=some (.map (rowsM b)):=by
 have cc:=cxK_ok (p:=kds [] [3] [])
 refine ECall.bodyNW (cxK_ok (p:=kds [] [3] [])) func266 rfl call266 (by rw [ntmps266];simp) rfl fun hf hw=>?_
 simp [ntmps266,results266] at hf |-
 refine AW.seq cc ?_
 simp
 refine AW.seq cc ?_
 simp [GH.add_obj,GH.add_next]
 refine ⟨by omega,?_⟩
 obtain ⟨H1,hH1⟩:∃ H1,((H.add (GO.map [])).add (GO.box [LV.d (DV.k (Value.map none))])).set (H.next+1) (GO.box [LV.gm H.next])=H1:=⟨_,rfl⟩
 have n1:H1.next=H.next+2:=by rw [<- hH1];rfl
 have b1:H1.obj (H.next+1)=some (.box [.gm H.next]):=by rw [<- hH1,GH.set_same]
 have m1:H1.obj H.next=some (.map []):=by rw [<- hH1,GH.set_obj,if_neg (by omega),GH.add_obj,if_neg (by rw [GH.add_next];omega),GH.add_obj,if_pos rfl]
 have o1:∀ m,m < H.next->H1.obj m=H.obj m:=fun m hm=>by rw [<- hH1,GH.set_obj,if_neg (by omega),GH.add_obj,if_neg (by rw [GH.add_next];omega),GH.add_obj,if_neg (by omega)]
 rw [hH1]
 clear hH1
 refine AW.seq cc ?_
 simp
 refine AW.loopS cc (fun a:Nat × (Int->Nat) × GH=>⟨[(3,.gp (H.next+1) 0),(7,.d (.sl (b.map rItem))),(8,lvI b.length),(9,lvI a.1)],[],a.2.2⟩) (fun a=>b.length - a.1)
  (fun a=>a.1<=b.length/\KeyR (H.next+2) (b.take a.1) a.2.1 a.2.2/\H.next+2<=a.2.2.next/\a.2.2.obj (H.next+1)=some (.box [.gm H.next])/\a.2.2.obj H.next=some (.map (esI (keysOf (b.take a.1)) (oslE (b.take a.1) a.2.1)))/\∀ m,m < H.next->a.2.2.obj m=H.obj m)
  (0,fun _=>0,H1) ⟨⟨Nat.zero_le _,⟨fun k hk=>by simp [keysOf] at hk,fun k hk=>by simp [keysOf] at hk,fun k hk=>by simp [keysOf] at hk⟩,by simp only;omega,b1,by simpa [keysOf,esI] using m1,o1⟩,by simp⟩ ?_
 rintro ⟨i,own,H2⟩ ⟨hi,hk,n2,b2,m2,o2⟩
 simp only at hi hk n2 b2 m2 o2
 simp
 refine ⟨fun h=>?_,fun h=>?_⟩
 ·obtain ⟨x,hxe⟩:∃ x,b[i]=x:=⟨_,rfl⟩
  have htk:b.take (i+1)=b.take i ++ [x]:=by rw [<- take_more h,hxe]
  simp [h,List.getElem?_eq_getElem h,hxe,rItem]
  obtain ⟨pre,hpre⟩:∃ pre,b.take i=pre:=⟨_,rfl⟩
  rw [hpre] at hk m2 htk
  have hpl:pre.length<=1000000:=by rw [<- hpre];simp;omega
  have hkey:=eq_true (esI_key (keysOf pre) (oslE pre own))
  have hget:=mfind_esI x.rec_.key (oslE pre own) (keysOf pre)
  have hput:=fun v=>mput_esI x.rec_.key v (oslE pre own) (keysOf pre) (keysOf_nodup pre)
  have hlt1:H.next < H2.next:=by omega
  refine AW.draw cc [] (.q 1<|.q 2<|.q 5<|.q 6<|.q 4<|.q 7<|.q 8<|.q 9<|.q 10<|.f (.cons 0 (.f (.cons 3 (.f<|.one 11<|.f<|.one 12<|.done) (.cons 11 (.q 3<|.f<|.one 12<|.done) (.nil)))) (.cons 3 (.f (.cons 0 (.f<|.one 11<|.f<|.one 12<|.done) (.cons 11 (.q 0<|.f<|.one 12<|.done) (.nil)))) (.cons 11 (.q 0<|.q 3<|.f<|.one 12<|.done) (.nil))))) (by kernel_rfl) ?_
  have hcell:([[.k (.int .i64 x.rec_.at_),.k (.int .i64 x.rec_.key),.k (.int .i64 x.rec_.val),.k (.int .i64 x.n)]]:List (List DV))=[rItem x]:=rfl
  have hrl:∀ j,(rowOf j pre).length<=pre.length:=fun j=>List.length_filter_le _ _
  have hw':=wrap_succ (n:=9223372036854775807) (show i < 9223372036854775807 by omega)
  have hro:∀ j,j ≠ x.rec_.key->rowOf j (pre ++ [x])=rowOf j pre:=fun j q=>by rw [rowOf_snoc,if_neg (fun e=>q e.symm),List.append_nil]
  have hrk:rowOf x.rec_.key (pre ++ [x])=rowOf x.rec_.key pre ++ [x]:=by rw [rowOf_snoc,if_pos rfl]
  have hl4:∀ j,∀ r ∈ (rowOf j pre).map rItem,r.length=4:=fun j=>rItem_all _
  by_cases hin:x.rec_.key ∈ keysOf pre
  ·have hks:keysOf (pre ++ [x])=keysOf pre:=by rw [keysOf_snoc,if_pos hin]
   obtain ⟨k1,k2⟩:=hk.lo _ hin
   have k3:=hk.ob _ hin
   have k4:=hrl x.rec_.key
   have hne:H.next ≠ own x.rec_.key:=by omega
   have hfin:mput (.int .i64 x.rec_.key) (.osl (own x.rec_.key) ((rowOf x.rec_.key pre).map rItem ++ [rItem x])) (esI (keysOf pre) (oslE pre own))=esI (keysOf (pre ++ [x])) (oslE (pre ++ [x]) own):=by
    rw [hput,if_pos hin,hks]
    refine esI_congr fun j hj=>?_
    by_cases e:j=x.rec_.key
    ·subst e;rw [if_pos rfl,oslE,hrk,List.map_append];rfl
    ·rw [if_neg e,oslE,oslE,hro j e]
   have m3:∀ X,(H2.set (own x.rec_.key) X).obj H.next=some (.map (esI (keysOf pre) (oslE pre own))):=fun X=>by rw [GH.set_obj,if_neg hne];exact m2
   have b3:∀ X,(H2.set (own x.rec_.key) X).obj (H.next+1)=some (.box [.gm H.next]):=fun X=>by rw [GH.set_obj,if_neg (by omega)];exact b2
   have hfin2:KeyR (H.next+2) (b.take (i+1)) own ((H2.set (own x.rec_.key) (.arr 86 4 ((rowOf x.rec_.key pre).length+1))).set H.next (.map (esI (keysOf (pre ++ [x])) (oslE (pre ++ [x]) own)))):=by
    rw [htk]
    refine ⟨fun k hk'=>?_,fun k hk'=>?_,fun k hk' j hj'=>?_⟩
    ·rw [hks] at hk';rw [GH.set_next,GH.set_next];exact hk.lo k hk'
    ·rw [hks] at hk'
     have:=hk.lo k hk'
     rw [GH.set_obj,if_neg (by omega),GH.set_obj]
     by_cases e:k=x.rec_.key
     ·subst e;rw [if_pos rfl,hrk];simp
     ·rw [if_neg (fun q=>e (hk.inj k hk' _ hin q)),hro k e];exact hk.ob k hk'
    ·rw [hks] at hk' hj';exact hk.inj k hk' j hj'
   obtain ⟨H3,hH3⟩:∃ H3,(H2.set (own x.rec_.key) (.arr 86 4 ((rowOf x.rec_.key pre).length+1))).set H.next (.map (esI (keysOf (pre ++ [x])) (oslE (pre ++ [x]) own)))=H3:=⟨_,rfl⟩
   have n4:H3.next=H2.next:=by rw [<- hH3];rfl
   have b4:H3.obj (H.next+1)=some (.box [.gm H.next]):=by rw [<- hH3,GH.set_obj,if_neg (by omega)];exact b3 _
   have m4:H3.obj H.next=some (.map (esI (keysOf (b.take (i+1))) (oslE (b.take (i+1)) own))):=by rw [<- hH3,htk,GH.set_same]
   have o4:∀ m,m < H.next->H3.obj m=H.obj m:=fun m hm=>by rw [<- hH3,GH.set_obj,if_neg (by omega),GH.set_obj,if_neg (by omega)];exact o2 m hm
   rw [hH3] at hfin2
   simp [b2,m2,hget,hkey,hin,oslE]
   refine ⟨⟨?_,?_⟩,⟨?_,?_⟩,?_⟩
   all_goals
    refine APK.ev ?_
    simp [k3,hcell,m3,b3,hfin,hkey,hl4,hH3]
    exact ⟨⟨by omega,by omega⟩,by rw [GH.set_next];omega,NX.go (i+1,own,H3) (by simp only;omega) ⟨h,hfin2,by simp only;omega,b4,m4,o4⟩ (by simp [hw'])⟩
  ·have hks:keysOf (pre ++ [x])=keysOf pre ++ [x.rec_.key]:=by rw [keysOf_snoc,if_neg hin]
   have hr0:rowOf x.rec_.key pre=[]:=by
    rw [rowOf,List.filter_eq_nil_iff]
    intro y hy q
    exact hin (keysOf_mem.2 ⟨y,hy,by simpa using q⟩)
   obtain ⟨own',hown⟩:∃ own':Int->Nat,own'=fun j=>if j=x.rec_.key then H2.next else own j:=⟨_,rfl⟩
   have hok:own' x.rec_.key=H2.next:=by rw [hown];simp
   have hoj:∀ j,j ≠ x.rec_.key->own' j=own j:=fun j q=>by rw [hown];simp [q]
   have hfin:mput (.int .i64 x.rec_.key) (.osl H2.next [rItem x]) (esI (keysOf pre) (oslE pre own))=esI (keysOf (pre ++ [x])) (oslE (pre ++ [x]) own'):=by
    rw [hput,if_neg hin,hks]
    refine esI_congr fun j hj=>?_
    by_cases e:j=x.rec_.key
    ·subst e;rw [if_pos rfl,oslE,hrk,hr0,hok];rfl
    ·rw [if_neg e,oslE,oslE,hro j e,hoj j e]
   have m3:∀ X,(H2.add X).obj H.next=some (.map (esI (keysOf pre) (oslE pre own))):=fun X=>by rw [GH.add_obj,if_neg (by omega)];exact m2
   have b3:∀ X,(H2.add X).obj (H.next+1)=some (.box [.gm H.next]):=fun X=>by rw [GH.add_obj,if_neg (by omega)];exact b2
   have hfin2:KeyR (H.next+2) (b.take (i+1)) own' ((H2.add (.arr 86 4 1)).set H.next (.map (esI (keysOf (pre ++ [x])) (oslE (pre ++ [x]) own')))):=by
    rw [htk]
    refine ⟨fun k hk'=>?_,fun k hk'=>?_,fun k hk' j hj'=>?_⟩
    ·rw [GH.set_next,GH.add_next]
     by_cases e:k=x.rec_.key
     ·subst e;rw [hok];omega
     ·rw [hoj k e]
      rw [hks] at hk'
      have:=hk.lo k ((List.mem_append.1 hk').resolve_right (by simpa using e))
      omega
    ·by_cases e:k=x.rec_.key
     ·subst e;rw [hok,GH.set_obj,if_neg (by omega),GH.add_obj,if_pos rfl,hrk,hr0];rfl
     ·rw [hks] at hk'
      have hk2:=(List.mem_append.1 hk').resolve_right (by simpa using e)
      have:=hk.lo k hk2
      rw [hoj k e,GH.set_obj,if_neg (by omega),GH.add_obj,if_neg (by omega),hro k e];exact hk.ob k hk2
    ·rw [hks] at hk' hj'
     intro q
     by_cases e:k=x.rec_.key
     ·by_cases e2:j=x.rec_.key
      ·rw [e,e2]
      ·have:=hk.lo j ((List.mem_append.1 hj').resolve_right (by simpa using e2))
       rw [e,hok,hoj j e2] at q;omega
     ·have k2:=(List.mem_append.1 hk').resolve_right (by simpa using e)
      have:=hk.lo k k2
      by_cases e2:j=x.rec_.key
      ·rw [e2,hok,hoj k e] at q;omega
      ·rw [hoj k e,hoj j e2] at q
       exact hk.inj k k2 j ((List.mem_append.1 hj').resolve_right (by simpa using e2)) q
   obtain ⟨H3,hH3⟩:∃ H3,(H2.add (.arr 86 4 1)).set H.next (.map (esI (keysOf (pre ++ [x])) (oslE (pre ++ [x]) own')))=H3:=⟨_,rfl⟩
   have n4:H3.next=H2.next+1:=by rw [<- hH3];rfl
   have b4:H3.obj (H.next+1)=some (.box [.gm H.next]):=by rw [<- hH3,GH.set_obj,if_neg (by omega)];exact b3 _
   have m4:H3.obj H.next=some (.map (esI (keysOf (b.take (i+1))) (oslE (b.take (i+1)) own'))):=by rw [<- hH3,htk,GH.set_same]
   have o4:∀ m,m < H.next->H3.obj m=H.obj m:=fun m hm=>by rw [<- hH3,GH.set_obj,if_neg (by omega),GH.add_obj,if_neg (by omega)];exact o2 m hm
   rw [hH3] at hfin2
   have ha:H.next < (H2.add (.arr 86 4 1)).next:=by rw [GH.add_next];omega
   have hb':H2.next < (H2.add (.arr 86 4 1)).next:=by rw [GH.add_next];omega
   simp [b2,m2,hget,hkey,hin]
   refine ⟨⟨?_,?_⟩,⟨?_,?_⟩,?_⟩
   all_goals
    refine APK.ev ?_
    simp [hcell,m3,b3,hfin,hkey,LV.nb,hH3,ha,hb']
    exact NX.go (i+1,own',H3) (by simp only;omega) ⟨h,hfin2,by simp only;omega,b4,m4,o4⟩ (by simp [hw'])
 ·have e:i=b.length:=by omega
  subst e
  rw [List.take_length] at hk m2
  refine AW.fzMap H.next _ m2 ?_
  have hfz:fzE (esI (keysOf b) (oslE b own))=rowsM b:=by
   simp only [fzE,esI,rowsM,List.map_map]
   refine List.map_congr_left fun k hk'=>?_
   simp [oslE,rowE,fz]
  rw [hfz]
  refine AW.ev cc ?_
  simp
  exact fun hz=>⟨_,hz.drop (by rw [GH.set_next];omega),by rw [GH.set_next];omega,by rw [GH.set_next];omega,fun m hm=>by rw [GH.set_obj,if_neg (by omega)];exact o2 m hm,by rw [GH.set_obj,if_neg (by omega)];exact b2,GH.set_same⟩
end Go.Aft
end
section
set_option maxRecDepth 20000
namespace Go.Aft
open Go.Proofs.Tryz
def itO (m:Nat) (es:List (Value × LV)) (seen:List Nat):GO:=.iter m es.length seen es.length
theorem EYield.nbZ {P:Program} {n:Nat} {args:List LV} {H:GH} {R:CE->GH->Prop} (h:nbH H->EYield P n args H R):EYield P n args H R:=fun G w vs hM hNL hargs =>
 h ⟨fun n hn=>by
  cases ho:H.obj n with
  | none=>rfl
  | some o=>have:=(hM.nmd n o ho).1;omega,fun n o ho=>GO_nb (hM.nmd n o ho).2⟩ G w vs hM hNL hargs
theorem rowsM_get {b:List Item} {i:Nat} {e:Value × LV} (h:(rowsM b)[i]?=some e):∃ k,(keysOf b)[i]?=some k/\e=(.int .i64 k,sl ((rowOf k b).map rItem)):=by
 simp only [rowsM,esI,List.getElem?_map,Option.map_eq_some_iff] at h
 obtain ⟨k,h1,h2⟩:=h
 exact ⟨k,h1,h2.symm⟩
@[simp] theorem rowsM_len (b:List Item):(rowsM b).length=(keysOf b).length:=by simp [rowsM,esI]
theorem mean_keyed1 {n nb m:Nat} {b:List Item} {H0:GH} {J:List Nat->GO->GH->Prop} (hnb:H0.obj nb=some (.box [.gm m])) (hm:H0.obj m=some (.map (rowsM b)))
  (h0:∀ X,J [] X (H0.add X)) (hst:∀ seen X Y H,J seen X H->J seen Y (H.set H0.next Y)) (hob:∀ seen X H,J seen X H->H0.next < H.next/\H.obj H0.next=some X/\H.obj m=some (.map (rowsM b)))
  (hstep:∀ seen i k X H,(keysOf b)[i]?=some k->i ∉ seen->(∀ i ∈ seen,i < (keysOf b).length)->nbH H->J seen X H->EYield prog n [lvI k,sl ((rowOf k b).map rItem)] H fun ce H'=>ce=.ret (bool true)/\J (seen ++ [i]) X H') :
  ECall prog 279 [.yl n,.gp nb 0] H0 fun ce H'=>(∃ v,ce=.ret v)/\∃ seen X,seen.Nodup/\(∀ i ∈ seen,i < (keysOf b).length)/\(∀ i,i < (keysOf b).length->i ∈ seen)/\J seen X H':=by
 have cc:=cxK_ok (p:=kds [] [] [])
 refine ECall.bodyNW (cxK_ok (p:=kds [] [] [])) func279 rfl call279 (by rw [ntmps279];simp) rfl fun hf hw=>?_
 have hmn:=hw.lt hm
 have hnn:=hw.lt hnb
 obtain ⟨es,hes⟩:∃ es,rowsM b=es:=⟨_,rfl⟩
 have hel:es.length=(keysOf b).length:=by rw [<- hes,rowsM_len]
 have hkeys:es.all (fun e=>keyOk e.1)=true:=by rw [<- hes];exact List.all_eq_true.2 fun e he=>by obtain ⟨x,_,q⟩:=List.mem_map.1 he;rw [<- q];rfl
 rw [hes] at hm hob
 rw [<- hel] at hstep |-
 simp [ntmps279,results279]
 refine AW.seq cc ?_
 simp [hnb,hm]
 refine AW.block (c:=cxK (kds [] [] [])) ?_
 refine AW.loopS cc (fun a:List Nat × GH=>⟨[(0,.yl n),(6,.gp H0.next 0)],[],a.2⟩) (fun a=>unm es.length (fun i=>decide (i ∈ a.1)))
  (fun a=>a.1.Nodup/\(∀ i ∈ a.1,i < es.length)/\J a.1 (itO m es a.1) a.2) ([],H0.add (itO m es [])) ⟨⟨by simp,by simp,h0 _⟩,by simp [itO]⟩ ?_
 rintro ⟨seen,H2⟩ ⟨s1,s2,hj⟩
 simp only at s1 s2 hj
 obtain ⟨b1,oi,om⟩:=hob _ _ _ hj
 simp
 refine ST.next (n:=H0.next) (m:=m) (seen:=seen) (es:=es) (by simp) oi om (by simp) rfl rfl hkeys (fun i e he hi=>?_) (fun hend=>?_)
 ·have hi':=(List.getElem?_eq_some_iff.1 he).1
  have hj3:=hst _ _ (itO m es (seen ++ [i])) _ hj
  obtain ⟨k,hk,rfl⟩:=rowsM_get (by rw [hes];exact he)
  simp
  refine ST.entry (n:=H0.next) (m:=m) (seen:=seen ++ [i]) (es:=es) (i:=i) (e:=_) (by simp) (by rw [GH.set_same]) (by rw [GH.set_obj,if_neg (by omega)];exact om) (by simp) rfl hkeys (by simp) he ?_
  obtain ⟨H3,hH3⟩:∃ H3,H2.set H0.next (GO.iter m es.length (seen ++ [i]) es.length)=H3:=⟨_,rfl⟩
  rw [show H2.set H0.next (itO m es (seen ++ [i]))=H3 from hH3] at hj3
  have hy:=EYield.nbZ fun hz=>hstep seen i k _ H3 hk hi s2 hz hj3
  have hsn:(seen ++ [i]).Nodup:=by
   rw [List.nodup_append]
   exact ⟨s1,by simp,fun a ha b hb=>by simp at hb;subst hb;intro q;subst q;exact hi ha⟩
  have hmea:unm es.length (fun j=>decide (j ∈ seen ++ [i])) < unm es.length (fun j=>decide (j ∈ seen)):=by
   have:=unm_mark (n:=es.length) (M:=fun j=>decide (j ∈ seen)) hi' (by simpa using hi)
   have e2:markK (fun j=>decide (j ∈ seen)) i=fun j=>decide (j ∈ seen ++ [i]):=by
    funext j;simp only [markK];by_cases q:j=i <;> simp [q]
   rw [e2] at this;exact this
  have hall:∀ j ∈ seen ++ [i],j < es.length:=fun j hj=>by
   rcases List.mem_append.1 hj with q | q
   ·exact s2 j q
   ·simp at q;subst q;exact hi'
  simp [hH3,keyLV]
  refine EY.of hy (fun v H4 hR=>?_) (fun x H4 hR=>by obtain ⟨q,_⟩:=hR;cases q)
  obtain ⟨q,hj4⟩:=hR
  cases q
  simp
  exact NX.go (seen ++ [i],H4) hmea ⟨hsn,hall,hj4⟩ (by simp [itO])
 ·simp
  exact fun hz=>⟨H2,hz.drop (by omega),seen,s1,s2,by simpa using hend,_,hj⟩
end Go.Aft
end
