import Derived.Test.YthinedikejlgmaaGreatA16
set_option linter.all false
section
set_option maxRecDepth 20000
namespace Go.Aft
open Go.Proofs.Tryz
theorem GM{H0 H:GH}(h1:H0.next<=H.next)(h2:∀n,H.next<=n->H.obj n=none)(h3:∀n o,H.obj n=some o->H0.obj n=some o\/ o.nb H.next):Drop H0 H H:=
 ⟨Nat.le_refl _,h1,λ_ _=>rfl,h2,h3⟩
theorem CD{H0 H:GH}(h:Drop H0 H H){n:Nat}(hn:n<H.next){cs:List LV}(hc:cD H.next cs):Drop H0 (H.set n (.box cs)) (H.set n (.box cs)):=by
 refine⟨Nat.le_refl _,h.V0,λ_ _=>rfl,λm hm=>?_,λm o ho=>?_⟩
 ·rw[GH.ay,if_neg (by have:H.next<=m:=hm;omega)];exact h.none m hm
 ·rw[GH.ay]at ho
  split at ho
  ·cases ho;exact .inr hc
  ·exact h.nb m o ho
def ck:LV:=.d (.k (.iface 207 (.agg #[])))
theorem eo(b:Bool)(H:GH):aG prog 153 [.d (.k (.bool b))] H λce H'=>H'=H/\(if b then∃v,ce=.ret v else ce=.ej ck):=by
 refine aG.body aP func153 rfl call153 (by rw[ntmps153];simp) rfl λhf hw=>?_
 simp[ntmps153,results153,ig,ck];have hd:Drop H H H:=aL (Nat.le_refl _) (λ_ _=>rfl) hw
 exact⟨λe=>⟨H,hd,rfl,by simp[e]⟩,λe=>⟨H,hd,rfl,e⟩⟩
theorem EC.of{P:Program}{f:FuncId}{args:List LV}{H:GH}{s:S}{dst:Option Nat}{K:KT}{Q:QT}{R:CE->GH->Prop}(h:aG P f args H R)(hk:∀v H',R (.ret v) H'->@AP K (({s with H:=H'}:S).put dst v))
  (hp:∀x H',R (.ej x) H'->Q.q (.ej x) {s with H:=H'}):@EC P f args H s dst K Q:=
 h.mono λce H' hR=>by
  cases ce with
  |ret v=>exact hk v H' hR
  |ej x=>exact hp x H' hR
def scp(c:List LV)(ahead nodes:Int):GO:=.box (c++[aH ahead,aH nodes])
theorem Hu(n:Nat)(H:GH)(x y z:LV)(ahead nodes depth:Int)(hn:H.obj n=some (scp [x,y,z] ahead nodes))(hc:cD H.next [x,y,z])(h0:0<=nodes)(h1:nodes<=1000000):
  aG prog 209 [.gp n 0,aH depth] H λce H'=>H'=H.set n (scp [x,y,z] ahead (nodes+1))/\(if nodes+1<=60/\depth<=10 then∃v,ce=.ret v else ce=.ej ck):=by
 refine aG.body aP func209 rfl call209 (by rw[ntmps209];simp) rfl λhf hw=>?_
 have w1:IntKind.wrap .i64 (nodes+1)=nodes+1:=by rw[wrap64]<;>omega
 have lt:n<H.next:=by
  rcases Nat.lt_or_ge n H.next with q|q
  ·exact q
  ·rw[hw n q]at hn;cases hn
 simp[scp]at hn;simp[ntmps209,results209,hn,w1,GH.set,mg];have hd:=CD (GM (Nat.le_refl _) hw λ_ _ q=>.inl q) lt (cs:=[x,y,z,aH ahead,aH (nodes+1)]) (by simp[cD]at hc|-;simp[hc,LV.nb])
 refine EC.of (eo _ _) (λv H' hR=>?_) (λv H' hR=>?_)
 ·obtain⟨rfl,hR⟩:=hR;by_cases hb:nodes+1<=60/\depth<=10
  ·simp;exact⟨_,hd,rfl,by simp[hb]⟩
  ·rw[if_neg (by simpa using hb)]at hR;cases hR
 ·obtain⟨rfl,hR⟩:=hR;by_cases hb:nodes+1<=60/\depth<=10
  ·rw[if_pos (by simpa using hb)]at hR;obtain⟨_,e⟩:=hR;cases e
  ·rw[if_neg (by simpa using hb)]at hR;cases hR
   simp[ck];exact⟨_,hd,rfl,by omega⟩
end Go.Aft
end
section
namespace Go.Aft
def fG(other:Bool)(op n:Int)(kids:Nat):Bool:=
 if op=1 then decide (-1000000000<=n/\n<=1000000000/\kids=0)
 else if op=2\/ op=3\/ op=4 then decide (n=0/\kids=0)
 else if op=5 then decide (other=true/\n=0/\kids=0)
 else decide (6<=op/\op<=10/\n=0/\kids=2)
mutual
def dJ(other:Bool):bh->Int->Int->Option Int
 |.mk op n kids,depth,left=>if depth<=10/\1<=left/\fG other op n kids.length=true then cz other kids (depth+1) (left-1)else none
def cz(other:Bool):List bh->Int->Int->Option Int
 |[],_,left=>some left
 |k::ks,depth,left=>match dJ other k depth left with
  |some l=>cz other ks depth l
  |none=>none
end
mutual
theorem mO{other:Bool}:∀(c:bh) (depth left l:Int),dJ other c depth left=some l->0<=l/\l<left
 |.mk op n kids,depth,left,l,h=>by
  rw[dJ]at h
  split at h
  ·rename_i hc;have:=oR kids _ _ _ h (by omega)
   omega
  ·cases h
theorem oR{other:Bool}:∀(cs:List bh) (depth left l:Int),cz other cs depth left=some l->0<=left->0<=l/\l<=left
 |[],depth,left,l,h,h0=>by rw[cz]at h;cases h;omega
 |k::ks,depth,left,l,h,h0=>by
  rw[cz]at h
  split at h
  ·rename_i l' hl;have h1:=mO k _ _ _ hl;have h2:=oR ks _ _ _ h (by omega)
   omega
  ·cases h
end
structure QS where
 kids:Int
 aD:Int
 name:Bool
 fold:Bool
 low:Int
 high:Int
def bK(op:Int):Option QS:=
 if op=1\/ op=2 then some ⟨0,0,true,false,0,0⟩
 else if op=3 then some ⟨0,0,true,false,1,50⟩
 else if op=4 then some ⟨2,0,false,false,0,0⟩
 else if op=5 then some ⟨1,1,false,false,0,0⟩
 else if op=6 then some ⟨1,2,false,false,0,0⟩
 else if op=7 then some ⟨1,0,false,false,-50,50⟩
 else if op=8\/ op=11 then some ⟨1,0,false,true,1,50⟩
 else if op=9 then some ⟨1,0,false,true,0,50⟩
 else if op=10 then some ⟨1,0,false,true,0,0⟩
 else if op=12 then some ⟨2,1,false,false,0,50⟩
 else if op=13 then some ⟨2,1,false,false,0,0⟩
 else if op=14 then some ⟨2,0,false,false,0,50⟩
 else if op=15 then some ⟨1,0,false,false,0,0⟩
 else none
def cH:cq:=⟨#[]⟩
def hU(op:Int)(name:cq)(n fold:Int)(nc nk:Nat):Bool:=
 match bK op with
 |none=>false
 |some x=>decide ((nk:Int)=x.kids/\(nc:Int)=x.aD)&&(x.name==decide (name≠cH))&&decide (x.low<=n/\n<=x.high)&&(if x.fold=true then decide (1<=fold/\fold<=4)else decide (fold=0))
def dD(az ai:List cq)(ahead op:Int)(name:cq):Bool:=
 if op=1 then decide (0<=idx az name)else if op=2 then decide (0<=idx ai name/\idx ai name<ahead)else if op=3 then decide (0<=idx ai name)else true
mutual
def fU(az ai:List cq)(ahead:Int):bz->Int->Int->Option Int
 |.mk op name n fold aD kids,depth,left=>
  if depth<=10/\1<=left/\hU op name n fold aD.length kids.length=true/\dD az ai ahead op name=true then
   match cz (decide (op=12\/ op=13)) aD 1 (left-1)with
   |some l=>eW az ai ahead kids (depth+1) l
   |none=>none
  else none
def eW(az ai:List cq)(ahead:Int):List bz->Int->Int->Option Int
 |[],_,left=>some left
 |k::ks,depth,left=>match fU az ai ahead k depth left with
  |some l=>eW az ai ahead ks depth l
  |none=>none
end
mutual
theorem lV{az ai:List cq}{a:Int}:∀(c:bz) (depth left l:Int),fU az ai a c depth left=some l->0<=l/\l<left
 |.mk op name n fold aD kids,depth,left,l,h=>by
  rw[fU]at h
  split at h
  ·split at h
   ·rename_i hc _ l1 h1;have h1:=oR _ _ _ _ h1 (by omega)
    have:=Jb kids _ _ _ h (by omega)
    omega
   ·cases h
  ·cases h
theorem Jb{az ai:List cq}{a:Int}:∀(cs:List bz) (depth left l:Int),eW az ai a cs depth left=some l->0<=left->0<=l/\l<=left
 |[],depth,left,l,h,h0=>by rw[eW]at h;cases h;omega
 |k::ks,depth,left,l,h,h0=>by
  rw[eW]at h
  split at h
  ·rename_i l' hl;have h1:=lV k _ _ _ hl;have h2:=Jb ks _ _ _ h (by omega)
   omega
  ·cases h
end
def an(p:Prog):List cq:=p.ai.map (·.name)
def jh(az names:List cq):List Ux->Int->Int->Option Int
 |[],_,left=>some left
 |d::ds,a,left=>match fU az names a d.exp 1 left with
  |some l=>jh az names ds (a+1) l
  |none=>none
theorem Je{az names:List cq}:∀(ds:List Ux) (a left l:Int),jh az names ds a left=some l->0<=left->0<=l/\l<=left
 |[],a,left,l,h,h0=>by rw[jh]at h;cases h;omega
 |d::ds,a,left,l,h,h0=>by
  rw[jh]at h
  split at h
  ·rename_i l' hl;have h1:=lV _ _ _ _ hl;have h2:=Je ds _ _ _ h (by omega)
   omega
  ·cases h
def eX:List cq:=[⟨#[97,102,116,101,114]⟩,⟨#[97,110,100]⟩,⟨#[97,115]⟩,⟨#[97,116]⟩,⟨#[98,111,116,104]⟩,⟨#[98,121]⟩,⟨#[99,111,117,110,116]⟩,⟨#[101,97,99,104]⟩,⟨#[101,108,115,101]⟩,⟨#[103,114,101,97,116]⟩,⟨#[103,114,111,117,112]⟩,⟨#[105,110]⟩,⟨#[105,115]⟩,⟨#[107,101,121]⟩,⟨#[108,97,99,107]⟩,⟨#[108,101,97,115,116]⟩,⟨#[108,101,115,115]⟩,⟨#[108,101,116]⟩,⟨#[111,102]⟩,⟨#[111,110,99,101]⟩,⟨#[111,114]⟩,⟨#[111,116,104,101,114]⟩,⟨#[112,97,105,114]⟩,⟨#[112,114,101,118]⟩,⟨#[114,101,115,116]⟩,⟨#[115,97,109,101]⟩,⟨#[115,104,105,102,116]⟩,⟨#[115,108,105,100,101]⟩,⟨#[115,111,117,114,99,101]⟩,⟨#[115,117,109]⟩,⟨#[116,111,116,97,108]⟩,⟨#[118,97,108]⟩,⟨#[119,104,101,114,101]⟩,⟨#[119,105,116,104,105,110]⟩]
def nK(s:cq):Bool:=(List.range s.size).all λj=>decide (97<=jH s (j:Nat)/\jH s (j:Nat)<=122)
def gV(s:cq):Bool:=decide (1<=s.size/\s.size<=8)&&nK s&&eX.all (λk=>decide (s≠k))
def cN(s:cq):Prop:=s.size<=140737488351232
def o7(l:List cq):Prop:=∀i (h:i<l.length),gV l[i]=true/\l[i]∉l.take i
mutual
def bc:bz->List bz
 |.mk op name n fold aD kids=>.mk op name n fold aD kids::bn kids
def bn:List bz->List bz
 |[]=>[]
 |e::es=>bc e++bn es
end
def gb(p:Prog)(i:Nat)(k:Nat):Prop:=∃h:i<p.ai.length,∃e∈bc p.ai[i].exp,(e.op=2\/ e.op=3)/\idx (an p) e.name=(k:Int)
inductive Path(S:Nat->Nat->Prop):Nat->Nat->Prop
 |one {i k:Nat} (h:S i k):Path S i k
 |cons {i j k:Nat} (h:S i j) (t:Path S j k):Path S i k
theorem Path.trans{S:Nat->Nat->Prop}{i j k:Nat}(h:Path S i j)(t:Path S j k):Path S i k:=by
 induction h with
 |one h=>exact .cons h t
 |cons h _ ih=>exact .cons h (ih t)
def bJ(e:bz):Bool:=decide (e.op=14\/ e.op=7/\e.n<0)
noncomputable def fF (p:Prog):Option Int:=
 open Classical in if 1<=p.az.length/\p.az.length<=4/\p.ai.length<=6/\o7 (p.az++an p)then jh p.az (an p) p.ai 0 60 else none
def Fs(p:Prog):Prop:=∀(i:Nat) (h:i<p.ai.length),Path (gb p) i i->∀e∈bc p.ai[i].exp,bJ e=false
def formed(p:Prog):Prop:=(∃l,fF p=some l)/\Fs p
def bQ(n:Nat)(R:Nat->Nat->Bool)(i:Nat):List Nat:=(List.range n).filter λk=>k==i||R i k&&R k i
def dO(n:Nat)(R:Nat->Nat->Bool):List (List Nat):=((List.range n).filter λi=>R i i&&(bQ n R i).head? ==some i).map (bQ n R)
theorem bL{n:Nat}{R:Nat->Nat->Bool}{i k:Nat}:k∈bQ n R i↔k<n/\(k=i\/ R i k=true/\R k i=true):=by
 simp[bQ]
theorem wP{n:Nat}{R:Nat->Nat->Bool}(ht:∀i j k,R i j=true->R j k=true->R i k=true){k:Nat}(hk:k<n):(∃ring∈dO n R,k∈ring)↔R k k=true:=by
 constructor
 ·rintro⟨ring,h,hkr⟩;simp only[dO,List.mem_map,List.mem_filter,Bool.and_eq_true]at h;obtain⟨i,⟨_,hi,_⟩,rfl⟩:=h;rcases(bL.1 hkr).2 with rfl|⟨h1,h2⟩
  ·exact hi
  ·exact ht _ _ _ h2 h1
 ·intro hkk;have hmem:k∈bQ n R k:=bL.2 ⟨hk,.inl rfl⟩;obtain⟨i,hi⟩:∃i,(bQ n R k).head?=some i:=by
   cases h:bQ n R k with
   |nil=>rw[h]at hmem;cases hmem
   |cons a l=>exact⟨a,rfl⟩
  have him:i∈bQ n R k:=List.mem_of_mem_head? (by rw[hi];exact rfl)
  obtain⟨hin,hik⟩:=bL.1 him;have h12:R k i=true/\R i k=true:=by
   rcases hik with rfl|h
   ·exact⟨hkk,hkk⟩
   ·exact h
  have hii:R i i=true:=ht _ _ _ h12.2 h12.1;have hsame:bQ n R i=bQ n R k:=by
   unfold bQ;refine List.filter_congr λj _=>?_
   rw[Bool.eq_iff_iff];simp only[Bool.or_eq_true,beq_iff_eq,Bool.and_eq_true];constructor
   ·rintro(rfl|⟨h1,h2⟩)
    ·exact .inr h12
    ·exact .inr ⟨ht _ _ _ h12.1 h1,ht _ _ _ h2 h12.2⟩
   ·rintro(rfl|⟨h1,h2⟩)
    ·exact .inr ⟨h12.2,h12.1⟩
    ·exact .inr ⟨ht _ _ _ h12.2 h1,ht _ _ _ h2 h12.1⟩
  refine⟨bQ n R i,?_,by rw[hsame];exact hmem⟩
  simp only[dO,List.mem_map,List.mem_filter,Bool.and_eq_true];exact⟨i,⟨List.mem_range.2 hin,hii,by rw[hsame,hi];simp⟩,rfl⟩
def z6:List (List Nat)->List Bool->Nat
 |t::ts,b::bs=>(if b=true then 0 else t.length)+z6 ts bs
 |_,_=>0
theorem HA:∀(to:List (List Nat)) (row:List Bool) (d:Nat) (hd:d<to.length) (hr:d<row.length),row[d]=false->z6 to (row.set d true)+to[d].length=z6 to row
 |t::ts,b::bs,0,hd,hr,h=>by
  simp only[List.getElem_cons_zero]at h;subst h;simp[z6];omega
 |t::ts,b::bs,d+1,hd,hr,h=>by
  simp only[List.length_cons,Nat.add_lt_add_iff_right]at hd hr;have:=HA ts bs d hd hr (by simpa using h)
  simp[z6];omega
theorem Nj:∀(to:List (List Nat)) (row:List Bool),z6 to row<=(to.map List.length).sum
 |t::ts,b::bs=>by have:=Nj ts bs;simp[z6];split<;>omega
 |[],_=>by simp[z6]
 |t::ts,[]=>by simp[z6]
structure QA(to:List (List Nat))(i k:Nat)(row:List Bool)(todo:List Nat):Prop where
 hk:k<=todo.length
 len:row.length=to.length
 W4:∀x∈todo,x<to.length
 sound:∀x∈todo,Path (λa b=>b∈to.getD a []) i x
 mark:∀x,row.getD x false=true->x∈todo.take k
 done:∀x∈todo.take k,row.getD x false=true/\∀y∈to.getD x [],y∈todo
 init:∀y∈to.getD i [],y∈todo
theorem QA.start{to:List (List Nat)}(hb:∀l∈to,∀x∈l,x<to.length){i:Nat}(hi:i<to.length):QA to i 0 (List.replicate to.length false) (to.getD i []):=by
 have hm:to.getD i []∈to:=by simp[List.getD,List.getElem?_eq_getElem hi]
 refine⟨Nat.zero_le _,by simp,λx hx=>hb _ hm x hx,λx hx=>.one hx,λx hx=>?_,λx hx=>by simp at hx,λy hy=>hy⟩
 exfalso;simp only[List.getD]at hx;rcases Nat.lt_or_ge x to.length with q|q
 ·rw[List.getElem?_replicate,if_pos q]at hx;cases hx
 ·rw[List.getElem?_eq_none (by simpa using q)]at hx;cases hx
theorem QA.skip{to:List (List Nat)}{i k:Nat}{row:List Bool}{todo:List Nat}(h:QA to i k row todo)(hk:k<todo.length)(hr:row.getD todo[k] false=true):QA to i (k+1) row todo:=by
 have ht:todo.take (k+1)=todo.take k++[todo[k]]:=by rw[List.take_add_one,List.getElem?_eq_getElem hk];rfl
 refine⟨hk,h.len,h.W4,h.sound,λx hx=>?_,λx hx=>?_,h.init⟩
 ·rw[ht];exact List.mem_append_left _ (h.mark x hx)
 ·rw[ht,List.mem_append]at hx;rcases hx with hx|hx
  ·exact h.done x hx
  ·have:=h.mark _ hr;simp only[List.mem_singleton]at hx;subst hx;exact h.done _ this
theorem QA.bg1{to:List (List Nat)}(hb:∀l∈to,∀x∈l,x<to.length){i k:Nat}{row:List Bool}{todo:List Nat}(h:QA to i k row todo)(hk:k<todo.length)(hr:row.getD todo[k] false=false):
  QA to i (k+1) (row.set todo[k] true) (todo++to.getD todo[k] []):=by
 have hlt:=h.W4 _ (List.getElem_mem hk);have hm:to.getD todo[k] []∈to:=by simp[List.getD,List.getElem?_eq_getElem hlt]
 have ht:(todo++to.getD todo[k] []).take (k+1)=todo.take k++[todo[k]]:=by
  rw[List.take_append_of_le_length hk,List.take_add_one,List.getElem?_eq_getElem hk];rfl
 have fE:∀x,(row.set todo[k] true).getD x false=if x=todo[k]then true else row.getD x false:=λx=>by
  simp only[List.getD,List.getElem?_set];by_cases e:x=todo[k]
  ·subst e;simp[h.len,hlt]
  ·rw[if_neg (Ne.symm e),if_neg e]
 refine⟨by simp;omega,by simp[h.len],λx hx=>?_,λx hx=>?_,λx hx=>?_,λx hx=>?_,λy hy=>List.mem_append_left _ (h.init y hy)⟩
 ·rcases List.mem_append.1 hx with hx|hx
  ·exact h.W4 x hx
  ·exact hb _ hm x hx
 ·rcases List.mem_append.1 hx with hx|hx
  ·exact h.sound x hx
  ·exact(h.sound _ (List.getElem_mem hk)).trans (.one hx)
 ·rw[fE]at hx;rw[ht,List.mem_append];by_cases e:x=todo[k]
  ·exact .inr (by simp[e])
  ·rw[if_neg e]at hx;exact .inl (h.mark x hx)
 ·rw[ht,List.mem_append]at hx;rw[fE];by_cases e:x=todo[k]
  ·rw[if_pos e];exact⟨rfl,λy hy=>List.mem_append_right _ (e▸hy)⟩
  ·rw[if_neg e];rcases hx with hx|hx
   ·exact⟨(h.done x hx).1,λy hy=>List.mem_append_left _ ((h.done x hx).2 y hy)⟩
   ·exact absurd (by simpa using hx) e
theorem QA.end{to:List (List Nat)}{i:Nat}{row:List Bool}{todo:List Nat}(h:QA to i todo.length row todo)(x:Nat):row.getD x false=true↔Path (λa b=>b∈to.getD a []) i x:=by
 have ht:todo.take todo.length=todo:=List.take_length;constructor
 ·intro hx;have:=h.mark x hx;rw[ht]at this;exact h.sound x this
 ·intro hp;have key:∀a b,Path (λa b=>b∈to.getD a []) a b->(a=i\/ a∈todo)->b∈todo:=by
   intro a b hab;have hs:∀a b,b∈to.getD a []->(a=i\/ a∈todo)->b∈todo:=λa b hb ha=>by
    rcases ha with rfl|ha
    ·exact h.init b hb
    ·exact(h.done a (by rw[ht];exact ha)).2 b hb
   induction hab with
   |one hb=>exact hs _ _ hb
   |cons hb _ ih=>exact λha=>ih (.inr (hs _ _ hb ha))
  have:=key i x hp (.inl rfl);exact(h.done x (by rw[ht];exact this)).1
theorem Path.congr{S T:Nat->Nat->Prop}(h:∀i k,S i k->T i k){i k:Nat}(p:Path S i k):Path T i k:=by
 induction p with
 |one q=>exact .one (h _ _ q)
 |cons q _ ih=>exact .cons (h _ _ q) ih
theorem EJ{n:Int}(h:-1000000000<=n/\n<=1000000000):eY n=n:=by
 unfold eY gW kj;split<;>split<;>omega
mutual
theorem Jf{o:Bool}{d:Int}(hd:0<=d):∀(c:bh) (depth left l:Int),dJ o c depth left=some l->dJ o c depth (left+d)=some (l+d)
 |.mk op n kids,depth,left,l,h=>by
  rw[dJ]at h|-
  split at h
  ·rename_i hc;rw[if_pos ⟨hc.1,by omega,hc.2.2⟩]
   have:=vU hd kids _ _ _ h;rw[show left+d-1=left-1+d by omega];exact this
  ·cases h
theorem vU{o:Bool}{d:Int}(hd:0<=d):∀(cs:List bh) (depth left l:Int),cz o cs depth left=some l->cz o cs depth (left+d)=some (l+d)
 |[],depth,left,l,h=>by rw[cz]at h|-;cases h;rfl
 |k::ks,depth,left,l,h=>by
  rw[cz]at h|-
  split at h
  ·rename_i l' hl;rw[Jf hd k _ _ _ hl];exact vU hd ks _ _ _ h
  ·cases h
end
mutual
theorem Mf{o:Bool}:∀(c:bh) (depth left l:Int),dJ o c depth left=some l->dW c depth left=l
 |.mk op n kids,depth,left,l,h=>by
  have hle:=mO _ _ _ _ h;rw[dJ]at h
  split at h
  ·rename_i hc;obtain⟨h1,h2,h3⟩:=hc;have ih:=yu kids _ _ _ h hle.1;unfold fG at h3;have key:(1<=op/\op<=10)/\((kids.length:Int)=(if 6<=op then 2 else 0))/\(op=1\/ n=0)/\n=eY n:=by
    have h0:eY 0=0:=EJ (by omega)
    split at h3
    ·have:=of_decide_eq_true h3;exact⟨by omega,by rw[if_neg (by omega)];omega,by omega,(EJ (by omega)).symm⟩
    ·split at h3
     ·have:=of_decide_eq_true h3;obtain⟨rfl,q⟩:=this;exact⟨by omega,by rw[if_neg (by omega)];omega,by omega,h0.symm⟩
     ·split at h3
      ·have:=of_decide_eq_true h3;obtain⟨_,rfl,q⟩:=this;exact⟨by omega,by rw[if_neg (by omega)];omega,by omega,h0.symm⟩
      ·have:=of_decide_eq_true h3;obtain⟨_,_,rfl,q⟩:=this;exact⟨by omega,by rw[if_pos (by omega)];omega,by omega,h0.symm⟩
   obtain⟨k1,k2,k3,k4⟩:=key;rw[dW,if_neg (by omega),if_neg (by rintro(q|q|q)<;>first|exact q k2|omega|exact q k4)]
   exact ih
  ·cases h
theorem yu{o:Bool}:∀(cs:List bh) (depth left l:Int),cz o cs (depth+1) left=some l->0<=l->di cs depth left=l
 |[],depth,left,l,h,h0=>by rw[cz]at h;cases h;rw[di]
 |k::ks,depth,left,l,h,h0=>by
  rw[cz]at h
  split at h
  ·rename_i l' hl;have h1:=Mf k _ _ _ hl;have h2:=mO k _ _ _ hl;rw[di,h1,if_neg (by omega)]
   exact yu ks _ _ _ h h0
  ·cases h
end
theorem EA{op n fold:Int}{name:cq}{nc nk:Nat}(h:hU op name n fold nc nk=true):∃x,bK op=some x/\(nk:Int)=x.kids/\(nc:Int)=x.aD:=by
 unfold hU at h
 split at h
 ·cases h
 ·rename_i x hx;simp only[Bool.and_eq_true,decide_eq_true_eq]at h;exact⟨x,hx,h.1.1.1.1,h.1.1.1.2⟩
theorem vT{az names:List cq}:∀(ds:List Ux) (a left l:Int),jh az names ds a left=some l->0<=left->∀(i:Nat) (h:i<ds.length),∃l1 l2,fU az names (a+i) ds[i].exp 1 l1=some l2/\0<=l1/\l1<=left
 |d::ds,a,left,l,h,h0,i,hi=>by
  rw[jh]at h
  split at h
  ·rename_i l' hl;have:=lV _ _ _ _ hl;cases i with
   |zero=>exact⟨left,l',by simpa using hl,h0,Int.le_refl _⟩
   |succ i=>
    obtain⟨l1,l2,q1,q2,q3⟩:=vT ds _ _ _ h (by omega) i (by simpa using hi)
    refine⟨l1,l2,?_,q2,by omega⟩
    rw[show a+((i+1:Nat):Int)=a+1+(i:Int)by omega];simpa using q1
  ·cases h
def ga(M:Nat->Bool)(k:Nat):Nat->Bool:=λx=>if x=k then true else M x
def Fa(n:Nat)(M:Nat->Bool):Nat:=(List.range n).countP λk=>!M k
theorem Hg{n:Nat}{M M':Nat->Bool}(h:∀k,M k=true->M' k=true):Fa n M'<=Fa n M:=by
 refine List.countP_mono_left λk _ hk=>?_
 cases hm:M k with
 |false=>rfl
 |true=>rw[h k hm]at hk;cases hk
theorem qW{n:Nat}{M:Nat->Bool}{k:Nat}(hk:k<n)(hm:M k=false):Fa n (ga M k)<Fa n M:=by
 unfold Fa
 induction n with
 |zero=>omega
 |succ n ih=>
  rw[List.range_succ,List.countP_append,List.countP_append];by_cases e:k=n
  ·subst e;have h1:(List.range k).countP (λx=>!ga M k x)<=(List.range k).countP (λx=>!M x):=Hg (n:=k) λx hx=>by unfold ga;split<;>simp[hx]
   simp[ga,hm];simp[ga]at h1;omega
  ·have:=ih (by omega)
   have hn:ga M k n=M n:=by unfold ga;rw[if_neg (by omega)]
   simp only[List.countP_cons,List.countP_nil,hn];omega
structure sN(S:Nat->Nat->Prop)(M M':Nat->Bool)(d:Nat):Prop where
 sub:∀k,M k=true->M' k=true
 succ:∀k,S d k->M' k=true
 Qe:∀j,M' j=true->M j=false->∀k,S j k->M' k=true
 sound:∀k,M' k=true->M k=true\/ Path S d k
structure iU(S:Nat->Nat->Prop)(M M':Nat->Bool)(d:Nat)(done:Nat->Prop):Prop where
 sub:∀k,M k=true->M' k=true
 succ:∀k,done k->M' k=true
 Qe:∀j,M' j=true->M j=false->∀k,S j k->M' k=true
 sound:∀k,M' k=true->M k=true\/ Path S d k
theorem iU.start{S:Nat->Nat->Prop}{M:Nat->Bool}{d:Nat}{done:Nat->Prop}(h:∀k,¬done k):iU S M M d done:=
 ⟨λ_ h=>h,λk hk=>absurd hk (h k),λj h1 h2=>absurd (h1.symm.trans h2) (by simp),λk h=>.inl h⟩
theorem iU.same{S:Nat->Nat->Prop}{M M':Nat->Bool}{d:Nat}{done done':Nat->Prop}(h:iU S M M' d done)(hd:∀k,done' k->done k\/ M' k=true):iU S M M' d done':=
 ⟨h.sub,λk hk=>(hd k hk).elim (h.succ k) id,h.Qe,h.sound⟩
theorem iU.step{S:Nat->Nat->Prop}{M M1 M2:Nat->Bool}{d x:Nat}{done done':Nat->Prop}(h:iU S M M1 d done)(hs:S d x)(hp:sN S (ga M1 x) M2 x)(hd:∀k,done' k->done k\/ k=x):iU S M M2 d done':=by
 have hx:M2 x=true:=hp.sub x (by simp[ga])
 have hsub:∀k,M1 k=true->M2 k=true:=λk hk=>hp.sub k (by unfold ga;split<;>simp[hk])
 refine⟨λk hk=>hsub k (h.sub k hk),λk hk=>?_,λj h1 h2 k hk=>?_,λk hk=>?_⟩
 ·rcases hd k hk with q|rfl
  ·exact hsub k (h.succ k q)
  ·exact hx
 ·by_cases e:j=x
  ·subst e;exact hp.succ k hk
  ·cases hm:M1 j with
   |true=>exact hsub k (h.Qe j hm h2 k hk)
   |false=>exact hp.Qe j h1 (by unfold ga;rw[if_neg e];exact hm) k hk
 ·rcases hp.sound k hk with q|q
  ·unfold ga at q
   split at q
   ·rename_i e;subst e;exact .inr (.one hs)
   ·exact h.sound k q
  ·exact .inr (.cons hs q)
theorem iU.end{S:Nat->Nat->Prop}{M M':Nat->Bool}{d:Nat}{done:Nat->Prop}(h:iU S M M' d done)(hd:∀k,S d k->done k):sN S M M' d:=⟨h.sub,λk hk=>h.succ k (hd k hk),h.Qe,h.sound⟩
theorem sN.all{S:Nat->Nat->Prop}{M:Nat->Bool}{d:Nat}(h:sN S (λ_=>false) M d)(k:Nat):M k=true↔Path S d k:=by
 constructor
 ·intro hk;rcases h.sound k hk with q|q
  ·cases q
  ·exact q
 ·intro hp;have key:∀a b,Path S a b->(a=d\/ M a=true)->M b=true:=by
   intro a b hab;have hs:∀a b,S a b->(a=d\/ M a=true)->M b=true:=λa b hb ha=>by
    rcases ha with rfl|ha
    ·exact h.succ b hb
    ·exact h.Qe a ha rfl b hb
   induction hab with
   |one hb=>exact hs _ _ hb
   |cons hb _ ih=>exact λha=>ih (.inr (hs _ _ hb ha))
  exact key d k hp (.inl rfl)
def zg:Rec:=⟨0,0,0⟩
def Rr(r:Rec):Prop:=0<=r.at_/\r.at_<=200/\cm r.key/\cm r.val
def Nn(n:dx):Prop:=0<=n.id/\n.id<=999/\1<=n.Nf/\n.Nf<=99/\Rr n.aa
def FQ(n:dx):Prop:=n.id=0/\n.Nf=0/\n.aa.key=0/\n.aa.val=0/\0<=n.aa.at_/\n.aa.at_<=201
def SS(n:dx)(az:Int):Prop:=0<=n.src/\n.src<=az-1/\(n.KZ=1/\Nn n\/ n.KZ=2/\Nn n/\n.aa=zg\/ n.KZ=3/\FQ n)
instance (r:Rec):Decidable (Rr r):=by unfold Rr cm;infer_instance
instance (n:dx):Decidable (Nn n):=by unfold Nn;infer_instance
instance (n:dx):Decidable (FQ n):=by unfold FQ;infer_instance
instance (n:dx) (s:Int):Decidable (SS n s):=by unfold SS;infer_instance
def LG(l:List dx)(az:Int):Prop:=1<=az/\az<=4/\l.length<=60/\∀n∈l,SS n az
instance (l:List dx) (s:Int):Decidable (LG l s):=by unfold LG;infer_instance
def mZ(a b:dx):Bool:=decide (a.KZ≠3/\b.KZ≠3/\a.src=b.src/\a.id=b.id/\a.Nf=b.Nf/\a≠b)
def iz(l:List dx)(k:Nat):Option Nat:=match l[k]? with
 |none=>none
 |some b=>(l.take k).findIdx? λa=>mZ a b
def mr(l:List dx):Nat->Nat->Option (Nat×Nat)
 |0,_=>none
 |m+1,k=>match iz l k with
  |some i=>some (i,k)
  |none=>mr l m (k+1)
def qp(l:List dx):Option (Nat×Nat):=mr l l.length 0
def N1(l:List dx)(az:Int):Prop:=LG l az/\qp l=none
instance (l:List dx) (s:Int):Decidable (N1 l s):=by unfold N1;infer_instance
theorem sF{l:List dx}:∀(m k:Nat),(∀j,k<=j->j<k+m->iz l j=none)->mr l m k=none
 |0,k,_=>rfl
 |m+1,k,h=>by
  rw[mr,h k (by omega) (by omega)]
  exact sF m (k+1) λj h1 h2=>h j (by omega) (by omega)
theorem sE{l:List dx}:∀(m k j i:Nat),k<=j->j<k+m->(∀j',k<=j'->j'<j->iz l j'=none)->iz l j=some i->mr l m k=some (i,j)
 |0,k,j,i,h1,h2,_,_=>by omega
 |m+1,k,j,i,h1,h2,h3,h4=>by
  rw[mr];by_cases e:j=k
  ·subst e;rw[h4]
  ·rw[h3 k (by omega) (by omega)]
   exact sE m (k+1) j i (by omega) (by omega) (λj' a b=>h3 j' (by omega) b) h4
theorem yN{l:List dx}(h:∀j,j<l.length->iz l j=none):qp l=none:=sF _ _ λj _ hj=>h j (by omega)
theorem Kc{l:List dx}{i j:Nat}(hj:j<l.length)(h:∀j',j'<j->iz l j'=none)(hi:iz l j=some i):qp l=some (i,j):=sE _ _ j i (by omega) (by omega) (λj' _ h'=>h j' h') hi
def aB9(src id:Int)(acc:Option dx)(n:dx):Option dx:=
 if n.KZ≠3/\n.src=src/\n.id=id/\(∀w,acc=some w->w.Nf<n.Nf)then some n else acc
def YD(l:List dx)(src id:Int):Option dx:=l.foldl (aB9 src id) none
def aB8(src:Int)(acc:Int)(n:dx):Int:=if n.KZ=3/\n.src=src then kj acc n.aa.at_ else acc
def av6(l:List dx)(src:Int):Int:=l.foldl (aB8 src) 0
def VR(l:List dx)(src id:Int):List Event:=match YD l src id with
 |some n=>if n.KZ=1 then[⟨src,id,n.aa⟩]else[]
 |none=>[]
def Yv(l:List dx)(n:dx):List Event×List Event:=
 if n.KZ=3 then([],[])else if VR l n.src n.id=VR (l++[n]) n.src n.id then([],[])else(VR l n.src n.id,VR (l++[n]) n.src n.id)
def Z8(l:List dx)(n:dx):Bool:=((Yv l n).1++(Yv l n).2).any λe=>decide (e.aa.at_<av6 l n.src)
def I8(l:List dx):List dx->Nat->List Nat
 |[],_=>[]
 |n::ns,i=>(if Z8 l n=true then[i]else[])++I8 (l++[n]) ns (i+1)
def av7(l:List dx):List Nat:=I8 [] l 0
def Te(a b:Event):Prop:=a.aa.at_<b.aa.at_\/ a.aa.at_=b.aa.at_/\(a.src<b.src\/ a.src=b.src/\a.id<b.id)
theorem iH{α:Type}{lt:α->α->Prop}(irr:∀a,¬lt a a)(tr:∀a b c,lt a b->lt b c->lt a c):∀{l m:List α},l.Pairwise lt->m.Pairwise lt->(∀x,x∈l↔x∈m)->l=m
 |[],[],_,_,_=>rfl
 |[],b::m,_,_,h=>absurd ((h b).2 (by simp)) (by simp)
 |a::l,[],_,_,h=>absurd ((h a).1 (by simp)) (by simp)
 |a::l,b::m,hl,hm,h=>by
  rw[List.pairwise_cons]at hl hm;have e:a=b:=by
   rcases List.mem_cons.1 ((h a).1 (by simp))with q|q
   ·exact q
   ·rcases List.mem_cons.1 ((h b).2 (by simp))with r|r
    ·exact r.symm
    ·exact absurd (tr _ _ _ (hm.1 a q) (hl.1 b r)) (irr b)
  subst e
  congr 1
  refine iH irr tr hl.2 hm.2 λx=>?_
  have hx:=h x;simp only[List.mem_cons]at hx;constructor
  ·intro ug;rcases hx.1 (.inr ug)with rfl|q
   ·exact absurd (hl.1 x ug) (irr x)
   ·exact q
  ·intro Wd;rcases hx.2 (.inr Wd)with rfl|q
   ·exact absurd (hm.1 x Wd) (irr x)
   ·exact q
end Go.Aft
end
section
set_option maxRecDepth 20000
namespace Go.Aft
structure Item where
 aa:Rec
 n:Int
 deriving DecidableEq
instance:Inhabited Item:=⟨⟨default,0⟩⟩
abbrev cg:=List Item
def ak(x:Item):List DV:=[.k (.int .i64 x.aa.at_),.k (.int .i64 x.aa.key),.k (.int .i64 x.aa.val),.k (.int .i64 x.n)]
@[simp] theorem DD (x:Item):(ak x).length=4:=rfl
def bY(b:cg):List DV:=[.sl (b.map ak)]
@[simp] theorem au8 (b:cg):(bY b).length=1:=rfl
def cO(a b:Rec):Bool:=decide (a.at_<b.at_\/ a.at_=b.at_/\(a.key<b.key\/ a.key=b.key/\a.val<b.val))
theorem oJ(a:Rec):cO a a=false:=by simp[cO]
theorem kS{a b c:Rec}(h:cO a b=true)(k:cO b c=true):cO a c=true:=by
 simp only[cO,decide_eq_true_eq]at*;omega
theorem wQ{a b:Rec}(h:cO a b=false)(k:cO b a=false):a=b:=by
 simp only[cO,decide_eq_false_iff_not]at*;obtain⟨a1,a2,a3⟩:=a;obtain⟨b1,b2,b3⟩:=b;simp only at*;have:a1=b1/\a2=b2/\a3=b3:=by omega
 simp[this]
def bS(l:List Item)(r:Rec):Int:=match l with
 |[]=>0
 |x::l=>(if x.aa=r then x.n else 0)+bS l r
def pG(l:List Item):Prop:=l.Pairwise λa b=>cO a.aa b.aa=true
def wS(x:Item):List Item->List Item
 |[]=>[x]
 |y::l=>if x.aa=y.aa then⟨y.aa,y.n+x.n⟩::l else if cO x.aa y.aa then x::y::l else y::wS x l
def tS:List Item->List Item
 |[]=>[]
 |x::l=>wS x (tS l)
def nw(l:List Item):cg:=(tS l).filter λx=>decide (x.n≠0)
def b6(l:List Item)(top:Int):cg:=nw (l.filter λx=>decide (0<=x.aa.at_/\x.aa.at_<=top))
theorem Ih{x:Item}:∀{l:List Item} {y:Item},y∈wS x l->y=x\/ y∈l\/ ∃z∈l,z.aa=x.aa/\y=⟨z.aa,z.n+x.n⟩
 |[],y,h=>by simp[wS]at h;exact .inl h
 |z::l,y,h=>by
  rw[wS]at h
  split at h
  ·rename_i e;rcases List.mem_cons.1 h with q|q
   ·exact .inr (.inr ⟨z,by simp,e.symm,q⟩)
   ·exact .inr (.inl (by simp[q]))
  ·split at h
   ·rcases List.mem_cons.1 h with q|q
    ·exact .inl q
    ·exact .inr (.inl q)
   ·rcases List.mem_cons.1 h with q|q
    ·exact .inr (.inl (by simp[q]))
    ·rcases Ih q with q|q|⟨w,q1,q2⟩
     ·exact .inl q
     ·exact .inr (.inl (by simp[q]))
     ·exact .inr (.inr ⟨w,by simp[q1],q2⟩)
theorem Ij{x:Item}:∀{l:List Item},pG l->pG (wS x l)
 |[],h=>by simp[wS,pG]
 |y::l,h=>by
  have h':=List.pairwise_cons.1 h;rw[wS]
  split
  ·exact List.pairwise_cons.2 ⟨λz hz=>h'.1 z hz,h'.2⟩
  ·rename_i hne
   split
   ·rename_i hlt;refine List.pairwise_cons.2 ⟨λz hz=>?_,h⟩
    rcases List.mem_cons.1 hz with q|q
    ·rw[q];exact hlt
    ·exact kS hlt (h'.1 z q)
   ·rename_i hlt;have hyx:cO y.aa x.aa=true:=by
     cases q:cO y.aa x.aa with
     |true=>rfl
     |false=>exact absurd (wQ (by simpa using hlt) q) hne
    refine List.pairwise_cons.2 ⟨λz hz=>?_,Ij h'.2⟩
    rcases Ih hz with q|q|⟨w,q1,q2,q3⟩
    ·rw[q];exact hyx
    ·exact h'.1 z q
    ·rw[q3];exact h'.1 w q1
theorem sR:∀l:List Item,pG (tS l)
 |[]=>.nil
 |x::l=>Ij (sR l)
theorem pn(l:List Item):pG (nw l):=(sR l).filter _
theorem EE(x:Item)(r:Rec):∀l:List Item,bS (wS x l) r=(if x.aa=r then x.n else 0)+bS l r
 |[]=>rfl
 |y::l=>by
  rw[wS]
  split
  ·rename_i e;rw[bS,bS,e];simp only
   split<;>omega
  ·split
   ·rw[bS]
   ·rw[bS,bS,EE x r l];omega
theorem xG(r:Rec):∀l:List Item,bS (tS l) r=bS l r
 |[]=>rfl
 |x::l=>by rw[tS,EE,xG r l,bS]
theorem o9{r:Rec}:∀{l:List Item},(∀x∈l,x.aa≠r)->bS l r=0
 |[],_=>rfl
 |x::l,h=>by rw[bS,if_neg (h x (by simp)),o9 λy hy=>h y (by simp[hy])];rfl
theorem pg{x:Item}:∀{l:List Item},pG l->x∈l->bS l x.aa=x.n
 |y::l,h,hx=>by
  have h':=List.pairwise_cons.1 h;rw[bS];rcases List.mem_cons.1 hx with q|q
  ·subst q;rw[if_pos rfl,o9 λz hz e=>by have:=h'.1 z hz;rw[e,oJ]at this;cases this];omega
  ·rw[if_neg,pg h'.2 q];·omega
   intro e;have:=h'.1 x q;rw[e,oJ]at this;cases this
theorem sD{r:Rec}:∀{l:List Item},bS l r≠0->∃x∈l,x.aa=r
 |[],h=>absurd rfl h
 |y::l,h=>by
  by_cases e:y.aa=r
  ·exact⟨y,by simp,e⟩
  ·rw[bS,if_neg e]at h;obtain⟨x,h1,h2⟩:=sD (r:=r) (l:=l) (by omega)
   exact⟨x,by simp[h1],h2⟩
theorem jJ{l:List Item}{x:Item}:x∈nw l↔x.n≠0/\x.n=bS l x.aa:=by
 simp only[nw,List.mem_filter,decide_eq_true_eq];constructor
 ·rintro⟨h1,h2⟩;exact⟨h2,by rw[<-xG,pg (sR l) h1]⟩
 ·rintro⟨h1,h2⟩;refine⟨?_,h1⟩;rw[<-xG]at h2;obtain⟨y,hy,e⟩:=sD (r:=x.aa) (l:=tS l) (by rw[<-h2];exact h1)
  have:=pg (sR l) hy;rw[e,<-h2]at this;have e2:x=y:=by
   obtain⟨xr,xn⟩:=x;obtain⟨yr,yn⟩:=y;simp only at e this;rw[e,this]
  rw[e2];exact hy
theorem pG.unique{a b:List Item}(ha:pG a)(hb:pG b)(h:∀x,x∈a↔x∈b):a=b:=
 iH (lt:=λa b:Item=>cO a.aa b.aa=true) (λa=>by simp[oJ]) (λ_ _ _=>kS) ha hb h
theorem wA{l:List Item}{b:cg}(hb:pG b)(h0:∀x∈b,x.n≠0)(h:∀r,bS b r=bS l r):b=nw l:=by
 refine hb.unique (pn l) λx=>?_
 rw[jJ];constructor
 ·intro hx;exact⟨h0 x hx,by rw[<-h,pg hb hx]⟩
 ·rintro⟨h1,h2⟩;rw[<-h]at h2;obtain⟨y,hy,e⟩:=sD (r:=x.aa) (l:=b) (by rw[<-h2];exact h1)
  have:=pg hb hy;rw[e,<-h2]at this;have e2:x=y:=by
   obtain⟨xr,xn⟩:=x;obtain⟨yr,yn⟩:=y;simp only at e this;rw[e,this]
  rw[e2];exact hy
theorem xH{a b:List Item}(h:a.Perm b)(r:Rec):bS a r=bS b r:=by
 induction h with
 |nil=>rfl
 |cons x _ ih=>rw[bS,bS,ih]
 |swap x y l=>rw[bS,bS,bS,bS];omega
 |trans _ _ i j=>exact i.trans j
theorem Cf(l:List Item)(r:Rec):bS (nw l) r=bS l r:=by
 by_cases h:bS l r=0
 ·rw[h];refine o9 λx hx e=>?_
  have:=jJ.1 hx;rw[e,h]at this;omega
 ·exact(pg (pn l) (jJ (x:=⟨r,bS l r⟩).2 ⟨h,rfl⟩):_)
theorem Ce{a b:List Item}(h:∀r,bS a r=bS b r):nw a=nw b:=
 wA (pn a) (λx hx=>(jJ.1 hx).1) λr=>by rw[Cf,h]
theorem Qp{a b:List Item}(h:a.Perm b):nw a=nw b:=Ce λr=>xH h r
theorem Fg{a b:List Item}(h:a.Perm b)(top:Int):b6 a top=b6 b top:=Qp (h.filter _)
def cI(f:Int)(st:Nat×Int)(x:Item):Nat×Int:=
 (st.1+1,if f=1 then st.2+x.n else if f=2 then st.2+x.n*x.aa.val else if f=3 then(if st.1=0\/ x.aa.val<st.2 then x.aa.val else st.2)else if f=4 then(if st.1=0\/ st.2<x.aa.val then x.aa.val else st.2)else st.2)
def foldI(f:Int)(l:List Item):Int:=eY (l.foldl (cI f) (0,0)).2
def dP(n:Int)(l:List Item):List Item:=l.map λx=>⟨⟨x.aa.at_+n,x.aa.key,x.aa.val⟩,x.n⟩
def mT(low:Int)(l:List Item):List Item:=l.dropWhile λx=>decide (x.aa.at_<low)
def bP(low high:Int)(l:List Item):List Item:=(mT low l).takeWhile λx=>decide (x.aa.at_<=high)
def bg:List Item->List Int
 |[]=>[]
 |x::l=>x.aa.key::(bg l).filter λk=>decide (k≠x.aa.key)
def rowOf(k:Int)(b:List Item):List Item:=b.filter λx=>decide (x.aa.key=k)
def sr(n:Int)(_:List Item)(t:Int):Option (Int×Int):=some (t.tdiv n*n,t.tdiv n*n+n-1)
def pM(n:Int)(_:List Item)(t:Int):Option (Int×Int):=some (t-n,t)
def uv(_:List Item)(t:Int):Option (Int×Int):=some (0,t)
def y8(n:Int)(l:List Item):Nat->Int->Int
 |0,low=>low
 |k+1,low=>match bP (low-n) (low-1) l with
  |[]=>low
  |x::_=>y8 n l k x.aa.at_
def qz(n:Int)(l:List Item)(t:Int):Option (Int×Int):=match bP (t+1) (t+n) l with
 |[]=>some (y8 n l 201 t,t)
 |_=>none
def eu(f more key:Int)(sp:Int->Option (Int×Int))(row:List Item):List Item->Int->List Item
 |[],_=>[]
 |x::l,last=>match sp x.aa.at_ with
  |none=>eu f more key sp row l last
  |some (low,high)=>if high=last then eu f more key sp row l last else⟨⟨high+more,key,foldI f (bP low high row)⟩,1⟩::eu f more key sp row l high
def sU(f more:Int)(sp:List Item->Int->Option (Int×Int))(b:List Item)(k:Int):List Item:=eu f more k (sp (rowOf k b)) (rowOf k b) (rowOf k b) (-1)
def gf(f more:Int)(sp:List Item->Int->Option (Int×Int))(b:List Item):List Item:=(bg b).flatMap (sU f more sp b)
def jr(c:bh)(b:List Item):List Item:=b.filter λx=>decide (eE x.aa 0 c≠0)
def yL(k v:bh)(b:List Item):List Item:=b.map λx=>⟨⟨x.aa.at_,eE x.aa 0 k,eE x.aa 0 v⟩,x.n⟩
def vJ(b:List Item):List Item:=b.map λx=>⟨x.aa,1⟩
def fL(c:bh)(x y:Item):Item:=⟨⟨kj x.aa.at_ y.aa.at_,x.aa.key,eE ⟨kj x.aa.at_ y.aa.at_,x.aa.key,x.aa.val⟩ y.aa.val c⟩,x.n*y.n⟩
def kU(n:Int)(c:bh)(a b:List Item):List Item:=a.flatMap λx=>(bP (x.aa.at_-n) (x.aa.at_+n) (rowOf x.aa.key b)).map (fL c x)
def jL(c:bh)(a b:List Item):List Item:=a.flatMap λx=>match(bP 0 x.aa.at_ (rowOf x.aa.key b)).getLast? with
 |none=>[]
 |some y=>[⟨⟨x.aa.at_,x.aa.key,eE x.aa y.aa.val c⟩,x.n⟩]
def rX(n:Int)(a b:List Item):List Item:=a.filter λx=>(bP (x.aa.at_-n) (x.aa.at_+n) (rowOf x.aa.key b)).isEmpty
structure bZ where
 az:List cg
 ai:List cg
def gu(p:Prog)(W:bZ)(op:Int)(name:cq)(n f:Int)(cs:List bh)(ks:List cg):List Item:=
 let a:=ks.getD 0 []
 let b:=ks.getD 1 []
 let c:=cs.getD 0 default
 if op=1 then W.az.getD (idx p.az name).toNat []
 else if op=2 then W.ai.getD (idx (an p) name).toNat []
 else if op=3 then dP n (W.ai.getD (idx (an p) name).toNat [])
 else if op=4 then a++b
 else if op=5 then jr c a
 else if op=6 then yL c (cs.getD 1 default) a
 else if op=7 then dP n a
 else if op=8 then gf f 0 (sr n) a
 else if op=9 then gf f 0 (pM n) a
 else if op=10 then gf f 0 uv a
 else if op=11 then gf f n (qz n) a
 else if op=12 then kU n c a b
 else if op=13 then jL c a b
 else if op=14 then rX n a b
 else vJ a
def gZ(b:cg):Bool:=decide (b.length<=300)&&b.all λx=>decide (x.n<=1000000)
mutual
def cZ(p:Prog)(W:bZ)(top:Int):bz->Option cg
 |.mk op name n f cs kids=>match eC p W top kids with
  |none=>none
  |some ks=>if gZ (b6 (gu p W op name n f cs ks) top)then some (b6 (gu p W op name n f cs ks) top)else none
def eC(p:Prog)(W:bZ)(top:Int):List bz->Option (List cg)
 |[]=>some []
 |e::es=>match cZ p W top e with
  |none=>none
  |some b=>match eC p W top es with
   |none=>none
   |some bs=>some (b::bs)
end
end Go.Aft
end
