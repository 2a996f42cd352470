import Derived.Test.YthinedikejlgmaaGreatA16
set_option linter.all false
section
set_option maxRecDepth 20000
namespace Go.Aft
open Go.Proofs.Tryz
theorem FQ{H0 H:GH}(h1:H0.next<=H.next)(h2:∀n,H.next<=n->H.obj n=none)(h3:∀n o,H.obj n=some o->H0.obj n=some o\/ o.nb H.next):Drop H0 H H:=
 ⟨Nat.le_refl _,h1,λ_ _=>rfl,h2,h3⟩
theorem B2{H0 H:GH}(h:Drop H0 H H){n:Nat}(hn:n<H.next){cs:List LV}(hc:ct H.next cs):Drop H0 (H.set n (.box cs)) (H.set n (.box cs)):=by
 refine⟨Nat.le_refl _,h.Vb,λ_ _=>rfl,λm hm=>?_,λm o ho=>?_⟩
 ·rw[GH.ay,if_neg (by have:H.next<=m:=hm;omega)];exact h.none m hm
 ·rw[GH.ay]at ho
  split at ho
  ·cases ho;exact .inr hc
  ·exact h.nb m o ho
def bZ:LV:=.d (.k (.iface 207 (.agg #[])))
theorem eb(b:Bool)(H:GH):aF prog 153 [.d (.k (.bool b))] H λce H'=>H'=H/\(if b then∃v,ce=.ret v else ce=.dY bZ):=by
 refine aF.body aP func153 rfl call153 (by rw[ntmps153];simp) rfl λhf hw=>?_
 simp[ntmps153,results153,gL,bZ];have hd:Drop H H H:=aO (Nat.le_refl _) (λ_ _=>rfl) hw
 exact⟨λe=>⟨H,hd,rfl,by simp[e]⟩,λe=>⟨H,hd,rfl,e⟩⟩
theorem EC.of{P:Program}{f:FuncId}{args:List LV}{H:GH}{s:S}{dst:Option Nat}{K:KT}{Q:QT}{R:CE->GH->Prop}(h:aF P f args H R)(hk:∀v H',R (.ret v) H'->@AP K (({s with H:=H'}:S).put dst v))
  (hp:∀x H',R (.dY x) H'->Q.q (.dY x) {s with H:=H'}):@EC P f args H s dst K Q:=
 h.mono λce H' hR=>by
  cases ce with
  |ret v=>exact hk v H' hR
  |dY x=>exact hp x H' hR
def scp(c:List LV)(ahead nodes:Int):GO:=.box (c++[aH ahead,aH nodes])
theorem Gk(n:Nat)(H:GH)(x y z:LV)(ahead nodes depth:Int)(hn:H.obj n=some (scp [x,y,z] ahead nodes))(hc:ct H.next [x,y,z])(h0:0<=nodes)(h1:nodes<=1000000):
  aF prog 209 [.gp n 0,aH depth] H λce H'=>H'=H.set n (scp [x,y,z] ahead (nodes+1))/\(if nodes+1<=60/\depth<=10 then∃v,ce=.ret v else ce=.dY bZ):=by
 refine aF.body aP func209 rfl call209 (by rw[ntmps209];simp) rfl λhf hw=>?_
 have w1:IntKind.wrap .i64 (nodes+1)=nodes+1:=by rw[wrap64]<;>omega
 have lt:n<H.next:=by
  rcases Nat.lt_or_ge n H.next with q|q
  ·exact q
  ·rw[hw n q]at hn;cases hn
 simp[scp]at hn;simp[ntmps209,results209,hn,w1,GH.set,lM];have hd:=B2 (FQ (Nat.le_refl _) hw λ_ _ q=>.inl q) lt (cs:=[x,y,z,aH ahead,aH (nodes+1)]) (by simp[ct]at hc|-;simp[hc,LV.nb])
 refine EC.of (eb _ _) (λv H' hR=>?_) (λv H' hR=>?_)
 ·obtain⟨rfl,hR⟩:=hR;by_cases hb:nodes+1<=60/\depth<=10
  ·simp;exact⟨_,hd,rfl,by simp[hb]⟩
  ·rw[if_neg (by simpa using hb)]at hR;cases hR
 ·obtain⟨rfl,hR⟩:=hR;by_cases hb:nodes+1<=60/\depth<=10
  ·rw[if_pos (by simpa using hb)]at hR;obtain⟨_,e⟩:=hR;cases e
  ·rw[if_neg (by simpa using hb)]at hR;cases hR
   simp[bZ];exact⟨_,hd,rfl,by omega⟩
end Go.Aft
end
section
namespace Go.Aft
def fk(other:Bool)(op n:Int)(kids:Nat):Bool:=
 if op=1 then decide (-1000000000<=n/\n<=1000000000/\kids=0)
 else if op=2\/ op=3\/ op=4 then decide (n=0/\kids=0)
 else if op=5 then decide (other=true/\n=0/\kids=0)
 else decide (6<=op/\op<=10/\n=0/\kids=2)
mutual
def dy(other:Bool):bc->Int->Int->Option Int
 |.mk op n kids,depth,left=>if depth<=10/\1<=left/\fk other op n kids.length=true then cp other kids (depth+1) (left-1)else none
def cp(other:Bool):List bc->Int->Int->Option Int
 |[],_,left=>some left
 |k::ks,depth,left=>match dy other k depth left with
  |some l=>cp other ks depth l
  |none=>none
end
mutual
theorem mB{other:Bool}:∀(c:bc) (depth left l:Int),dy other c depth left=some l->0<=l/\l<left
 |.mk op n kids,depth,left,l,h=>by
  rw[dy]at h
  split at h
  ·rename_i hc;have:=oz kids _ _ _ h (by omega)
   omega
  ·cases h
theorem oz{other:Bool}:∀(cs:List bc) (depth left l:Int),cp other cs depth left=some l->0<=left->0<=l/\l<=left
 |[],depth,left,l,h,h0=>by rw[cp]at h;cases h;omega
 |k::ks,depth,left,l,h,h0=>by
  rw[cp]at h
  split at h
  ·rename_i l' hl;have h1:=mB k _ _ _ hl;have h2:=oz ks _ _ _ h (by omega)
   omega
  ·cases h
end
structure PV where
 kids:Int
 aD:Int
 name:Bool
 fold:Bool
 low:Int
 high:Int
def bF(op:Int):Option PV:=
 if op=1\/ op=2 then some ⟨0,0,true,false,0,0⟩
 else if op=3 then some ⟨0,0,true,false,1,50⟩
 else if op=4 then some ⟨2,0,false,false,0,0⟩
 else if op=5 then some ⟨1,1,false,false,0,0⟩
 else if op=6 then some ⟨1,2,false,false,0,0⟩
 else if op=7 then some ⟨1,0,false,false,-50,50⟩
 else if op=8\/ op=11 then some ⟨1,0,false,true,1,50⟩
 else if op=9 then some ⟨1,0,false,true,0,50⟩
 else if op=10 then some ⟨1,0,false,true,0,0⟩
 else if op=12 then some ⟨2,1,false,false,0,50⟩
 else if op=13 then some ⟨2,1,false,false,0,0⟩
 else if op=14 then some ⟨2,0,false,false,0,50⟩
 else if op=15 then some ⟨1,0,false,false,0,0⟩
 else none
def cF:ca:=⟨#[]⟩
def gI(op:Int)(name:ca)(n fold:Int)(nc nk:Nat):Bool:=
 match bF op with
 |none=>false
 |some x=>decide ((nk:Int)=x.kids/\(nc:Int)=x.aD)&&(x.name==decide (name≠cF))&&decide (x.low<=n/\n<=x.high)&&(if x.fold=true then decide (1<=fold/\fold<=4)else decide (fold=0))
def di(az aj:List ca)(ahead op:Int)(name:ca):Bool:=
 if op=1 then decide (0<=idx az name)else if op=2 then decide (0<=idx aj name/\idx aj name<ahead)else if op=3 then decide (0<=idx aj name)else true
mutual
def fF(az aj:List ca)(ahead:Int):bw->Int->Int->Option Int
 |.mk op name n fold aD kids,depth,left=>
  if depth<=10/\1<=left/\gI op name n fold aD.length kids.length=true/\di az aj ahead op name=true then
   match cp (decide (op=12\/ op=13)) aD 1 (left-1)with
   |some l=>eO az aj ahead kids (depth+1) l
   |none=>none
  else none
def eO(az aj:List ca)(ahead:Int):List bw->Int->Int->Option Int
 |[],_,left=>some left
 |k::ks,depth,left=>match fF az aj ahead k depth left with
  |some l=>eO az aj ahead ks depth l
  |none=>none
end
mutual
theorem lF{az aj:List ca}{a:Int}:∀(c:bw) (depth left l:Int),fF az aj a c depth left=some l->0<=l/\l<left
 |.mk op name n fold aD kids,depth,left,l,h=>by
  rw[fF]at h
  split at h
  ·split at h
   ·rename_i hc _ l1 h1;have h1:=oz _ _ _ _ h1 (by omega)
    have:=Il kids _ _ _ h (by omega)
    omega
   ·cases h
  ·cases h
theorem Il{az aj:List ca}{a:Int}:∀(cs:List bw) (depth left l:Int),eO az aj a cs depth left=some l->0<=left->0<=l/\l<=left
 |[],depth,left,l,h,h0=>by rw[eO]at h;cases h;omega
 |k::ks,depth,left,l,h,h0=>by
  rw[eO]at h
  split at h
  ·rename_i l' hl;have h1:=lF k _ _ _ hl;have h2:=Il ks _ _ _ h (by omega)
   omega
  ·cases h
end
def an(p:Prog):List ca:=p.aj.map (·.name)
def iP(az names:List ca):List TJ->Int->Int->Option Int
 |[],_,left=>some left
 |d::ds,a,left=>match fF az names a d.exp 1 left with
  |some l=>iP az names ds (a+1) l
  |none=>none
theorem Ip{az names:List ca}:∀(ds:List TJ) (a left l:Int),iP az names ds a left=some l->0<=left->0<=l/\l<=left
 |[],a,left,l,h,h0=>by rw[iP]at h;cases h;omega
 |d::ds,a,left,l,h,h0=>by
  rw[iP]at h
  split at h
  ·rename_i l' hl;have h1:=lF _ _ _ _ hl;have h2:=Ip ds _ _ _ h (by omega)
   omega
  ·cases h
def eP:List ca:=[⟨#[97,102,116,101,114]⟩,⟨#[97,110,100]⟩,⟨#[97,115]⟩,⟨#[97,116]⟩,⟨#[98,111,116,104]⟩,⟨#[98,121]⟩,⟨#[99,111,117,110,116]⟩,⟨#[101,97,99,104]⟩,⟨#[101,108,115,101]⟩,⟨#[103,114,101,97,116]⟩,⟨#[103,114,111,117,112]⟩,⟨#[105,110]⟩,⟨#[105,115]⟩,⟨#[107,101,121]⟩,⟨#[108,97,99,107]⟩,⟨#[108,101,97,115,116]⟩,⟨#[108,101,115,115]⟩,⟨#[108,101,116]⟩,⟨#[111,102]⟩,⟨#[111,110,99,101]⟩,⟨#[111,114]⟩,⟨#[111,116,104,101,114]⟩,⟨#[112,97,105,114]⟩,⟨#[112,114,101,118]⟩,⟨#[114,101,115,116]⟩,⟨#[115,97,109,101]⟩,⟨#[115,104,105,102,116]⟩,⟨#[115,108,105,100,101]⟩,⟨#[115,111,117,114,99,101]⟩,⟨#[115,117,109]⟩,⟨#[116,111,116,97,108]⟩,⟨#[118,97,108]⟩,⟨#[119,104,101,114,101]⟩,⟨#[119,105,116,104,105,110]⟩]
def nj(s:ca):Bool:=(List.range s.size).all λj=>decide (97<=jh s (j:Nat)/\jh s (j:Nat)<=122)
def gE(s:ca):Bool:=decide (1<=s.size/\s.size<=8)&&nj s&&eP.all (λk=>decide (s≠k))
def cN(s:ca):Prop:=s.size<=140737488351232
def oI(l:List ca):Prop:=∀i (h:i<l.length),gE l[i]=true/\l[i]∉l.take i
mutual
def bn:bw->List bw
 |.mk op name n fold aD kids=>.mk op name n fold aD kids::bu kids
def bu:List bw->List bw
 |[]=>[]
 |e::es=>bn e++bu es
end
def fJ(p:Prog)(i:Nat)(k:Nat):Prop:=∃h:i<p.aj.length,∃e∈bn p.aj[i].exp,(e.op=2\/ e.op=3)/\idx (an p) e.name=(k:Int)
inductive Path(S:Nat->Nat->Prop):Nat->Nat->Prop
 |one {i k:Nat} (h:S i k):Path S i k
 |cons {i j k:Nat} (h:S i j) (t:Path S j k):Path S i k
theorem Path.trans{S:Nat->Nat->Prop}{i j k:Nat}(h:Path S i j)(t:Path S j k):Path S i k:=by
 induction h with
 |one h=>exact .cons h t
 |cons h _ ih=>exact .cons h (ih t)
def cD(e:bw):Bool:=decide (e.op=14\/ e.op=7/\e.n<0)
noncomputable def fh (p:Prog):Option Int:=
 open Classical in if 1<=p.az.length/\p.az.length<=4/\p.aj.length<=6/\oI (p.az++an p)then iP p.az (an p) p.aj 0 60 else none
def Ez(p:Prog):Prop:=∀(i:Nat) (h:i<p.aj.length),Path (fJ p) i i->∀e∈bn p.aj[i].exp,cD e=false
def formed(p:Prog):Prop:=(∃l,fh p=some l)/\Ez p
def bO(n:Nat)(R:Nat->Nat->Bool)(i:Nat):List Nat:=(List.range n).filter λk=>k==i||R i k&&R k i
def dG(n:Nat)(R:Nat->Nat->Bool):List (List Nat):=((List.range n).filter λi=>R i i&&(bO n R i).head? ==some i).map (bO n R)
theorem bK{n:Nat}{R:Nat->Nat->Bool}{i k:Nat}:k∈bO n R i↔k<n/\(k=i\/ R i k=true/\R k i=true):=by
 simp[bO]
theorem vR{n:Nat}{R:Nat->Nat->Bool}(ht:∀i j k,R i j=true->R j k=true->R i k=true){k:Nat}(hk:k<n):(∃ring∈dG n R,k∈ring)↔R k k=true:=by
 constructor
 ·rintro⟨ring,h,hkr⟩;simp only[dG,List.mem_map,List.mem_filter,Bool.and_eq_true]at h;obtain⟨i,⟨_,hi,_⟩,rfl⟩:=h;rcases(bK.1 hkr).2 with rfl|⟨h1,h2⟩
  ·exact hi
  ·exact ht _ _ _ h2 h1
 ·intro hkk;have hmem:k∈bO n R k:=bK.2 ⟨hk,.inl rfl⟩;obtain⟨i,hi⟩:∃i,(bO n R k).head?=some i:=by
   cases h:bO n R k with
   |nil=>rw[h]at hmem;cases hmem
   |cons a l=>exact⟨a,rfl⟩
  have him:i∈bO n R k:=List.mem_of_mem_head? (by rw[hi];exact rfl)
  obtain⟨hin,hik⟩:=bK.1 him;have h12:R k i=true/\R i k=true:=by
   rcases hik with rfl|h
   ·exact⟨hkk,hkk⟩
   ·exact h
  have hii:R i i=true:=ht _ _ _ h12.2 h12.1;have hsame:bO n R i=bO n R k:=by
   unfold bO;refine List.filter_congr λj _=>?_
   rw[Bool.eq_iff_iff];simp only[Bool.or_eq_true,beq_iff_eq,Bool.and_eq_true];constructor
   ·rintro(rfl|⟨h1,h2⟩)
    ·exact .inr h12
    ·exact .inr ⟨ht _ _ _ h12.1 h1,ht _ _ _ h2 h12.2⟩
   ·rintro(rfl|⟨h1,h2⟩)
    ·exact .inr ⟨h12.2,h12.1⟩
    ·exact .inr ⟨ht _ _ _ h12.2 h1,ht _ _ _ h2 h12.1⟩
  refine⟨bO n R i,?_,by rw[hsame];exact hmem⟩
  simp only[dG,List.mem_map,List.mem_filter,Bool.and_eq_true];exact⟨i,⟨List.mem_range.2 hin,hii,by rw[hsame,hi];simp⟩,rfl⟩
def zo:List (List Nat)->List Bool->Nat
 |t::ts,b::bs=>(if b=true then 0 else t.length)+zo ts bs
 |_,_=>0
theorem Gt:∀(to:List (List Nat)) (row:List Bool) (d:Nat) (hd:d<to.length) (hr:d<row.length),row[d]=false->zo to (row.set d true)+to[d].length=zo to row
 |t::ts,b::bs,0,hd,hr,h=>by
  simp only[List.getElem_cons_zero]at h;subst h;simp[zo];omega
 |t::ts,b::bs,d+1,hd,hr,h=>by
  simp only[List.length_cons,Nat.add_lt_add_iff_right]at hd hr;have:=Gt ts bs d hd hr (by simpa using h)
  simp[zo];omega
theorem Ms:∀(to:List (List Nat)) (row:List Bool),zo to row<=(to.map List.length).sum
 |t::ts,b::bs=>by have:=Ms ts bs;simp[zo];split<;>omega
 |[],_=>by simp[zo]
 |t::ts,[]=>by simp[zo]
structure PF(to:List (List Nat))(i k:Nat)(row:List Bool)(todo:List Nat):Prop where
 hk:k<=todo.length
 len:row.length=to.length
 bnd:∀x∈todo,x<to.length
 sound:∀x∈todo,Path (λa b=>b∈to.getD a []) i x
 mark:∀x,row.getD x false=true->x∈todo.take k
 done:∀x∈todo.take k,row.getD x false=true/\∀y∈to.getD x [],y∈todo
 init:∀y∈to.getD i [],y∈todo
theorem PF.start{to:List (List Nat)}(hb:∀l∈to,∀x∈l,x<to.length){i:Nat}(hi:i<to.length):PF to i 0 (List.replicate to.length false) (to.getD i []):=by
 have hm:to.getD i []∈to:=by simp[List.getD,List.getElem?_eq_getElem hi]
 refine⟨Nat.zero_le _,by simp,λx hx=>hb _ hm x hx,λx hx=>.one hx,λx hx=>?_,λx hx=>by simp at hx,λy hy=>hy⟩
 exfalso;simp only[List.getD]at hx;rcases Nat.lt_or_ge x to.length with q|q
 ·rw[List.getElem?_replicate,if_pos q]at hx;cases hx
 ·rw[List.getElem?_eq_none (by simpa using q)]at hx;cases hx
theorem PF.skip{to:List (List Nat)}{i k:Nat}{row:List Bool}{todo:List Nat}(h:PF to i k row todo)(hk:k<todo.length)(hr:row.getD todo[k] false=true):PF to i (k+1) row todo:=by
 have ht:todo.take (k+1)=todo.take k++[todo[k]]:=by rw[List.take_add_one,List.getElem?_eq_getElem hk];rfl
 refine⟨hk,h.len,h.bnd,h.sound,λx hx=>?_,λx hx=>?_,h.init⟩
 ·rw[ht];exact List.mem_append_left _ (h.mark x hx)
 ·rw[ht,List.mem_append]at hx;rcases hx with hx|hx
  ·exact h.done x hx
  ·have:=h.mark _ hr;simp only[List.mem_singleton]at hx;subst hx;exact h.done _ this
theorem PF.turn{to:List (List Nat)}(hb:∀l∈to,∀x∈l,x<to.length){i k:Nat}{row:List Bool}{todo:List Nat}(h:PF to i k row todo)(hk:k<todo.length)(hr:row.getD todo[k] false=false):
  PF to i (k+1) (row.set todo[k] true) (todo++to.getD todo[k] []):=by
 have hlt:=h.bnd _ (List.getElem_mem hk);have hm:to.getD todo[k] []∈to:=by simp[List.getD,List.getElem?_eq_getElem hlt]
 have ht:(todo++to.getD todo[k] []).take (k+1)=todo.take k++[todo[k]]:=by
  rw[List.take_append_of_le_length hk,List.take_add_one,List.getElem?_eq_getElem hk];rfl
 have ff:∀x,(row.set todo[k] true).getD x false=if x=todo[k]then true else row.getD x false:=λx=>by
  simp only[List.getD,List.getElem?_set];by_cases e:x=todo[k]
  ·subst e;simp[h.len,hlt]
  ·rw[if_neg (Ne.symm e),if_neg e]
 refine⟨by simp;omega,by simp[h.len],λx hx=>?_,λx hx=>?_,λx hx=>?_,λx hx=>?_,λy hy=>List.mem_append_left _ (h.init y hy)⟩
 ·rcases List.mem_append.1 hx with hx|hx
  ·exact h.bnd x hx
  ·exact hb _ hm x hx
 ·rcases List.mem_append.1 hx with hx|hx
  ·exact h.sound x hx
  ·exact(h.sound _ (List.getElem_mem hk)).trans (.one hx)
 ·rw[ff]at hx;rw[ht,List.mem_append];by_cases e:x=todo[k]
  ·exact .inr (by simp[e])
  ·rw[if_neg e]at hx;exact .inl (h.mark x hx)
 ·rw[ht,List.mem_append]at hx;rw[ff];by_cases e:x=todo[k]
  ·rw[if_pos e];exact⟨rfl,λy hy=>List.mem_append_right _ (e▸hy)⟩
  ·rw[if_neg e];rcases hx with hx|hx
   ·exact⟨(h.done x hx).1,λy hy=>List.mem_append_left _ ((h.done x hx).2 y hy)⟩
   ·exact absurd (by simpa using hx) e
theorem PF.end{to:List (List Nat)}{i:Nat}{row:List Bool}{todo:List Nat}(h:PF to i todo.length row todo)(x:Nat):row.getD x false=true↔Path (λa b=>b∈to.getD a []) i x:=by
 have ht:todo.take todo.length=todo:=List.take_length;constructor
 ·intro hx;have:=h.mark x hx;rw[ht]at this;exact h.sound x this
 ·intro hp;have key:∀a b,Path (λa b=>b∈to.getD a []) a b->(a=i\/ a∈todo)->b∈todo:=by
   intro a b hab;have hs:∀a b,b∈to.getD a []->(a=i\/ a∈todo)->b∈todo:=λa b hb ha=>by
    rcases ha with rfl|ha
    ·exact h.init b hb
    ·exact(h.done a (by rw[ht];exact ha)).2 b hb
   induction hab with
   |one hb=>exact hs _ _ hb
   |cons hb _ ih=>exact λha=>ih (.inr (hs _ _ hb ha))
  have:=key i x hp (.inl rfl);exact(h.done x (by rw[ht];exact this)).1
theorem Path.congr{S T:Nat->Nat->Prop}(h:∀i k,S i k->T i k){i k:Nat}(p:Path S i k):Path T i k:=by
 induction p with
 |one q=>exact .one (h _ _ q)
 |cons q _ ih=>exact .cons (h _ _ q) ih
theorem DZ{n:Int}(h:-1000000000<=n/\n<=1000000000):eR n=n:=by
 unfold eR ic jN;split<;>split<;>omega
mutual
theorem Iq{o:Bool}{d:Int}(hd:0<=d):∀(c:bc) (depth left l:Int),dy o c depth left=some l->dy o c depth (left+d)=some (l+d)
 |.mk op n kids,depth,left,l,h=>by
  rw[dy]at h|-
  split at h
  ·rename_i hc;rw[if_pos ⟨hc.1,by omega,hc.2.2⟩]
   have:=vi hd kids _ _ _ h;rw[show left+d-1=left-1+d by omega];exact this
  ·cases h
theorem vi{o:Bool}{d:Int}(hd:0<=d):∀(cs:List bc) (depth left l:Int),cp o cs depth left=some l->cp o cs depth (left+d)=some (l+d)
 |[],depth,left,l,h=>by rw[cp]at h|-;cases h;rfl
 |k::ks,depth,left,l,h=>by
  rw[cp]at h|-
  split at h
  ·rename_i l' hl;rw[Iq hd k _ _ _ hl];exact vi hd ks _ _ _ h
  ·cases h
end
mutual
theorem Lp{o:Bool}:∀(c:bc) (depth left l:Int),dy o c depth left=some l->dM c depth left=l
 |.mk op n kids,depth,left,l,h=>by
  have hle:=mB _ _ _ _ h;rw[dy]at h
  split at h
  ·rename_i hc;obtain⟨h1,h2,h3⟩:=hc;have ih:=xL kids _ _ _ h hle.1;unfold fk at h3;have key:(1<=op/\op<=10)/\((kids.length:Int)=(if 6<=op then 2 else 0))/\(op=1\/ n=0)/\n=eR n:=by
    have h0:eR 0=0:=DZ (by omega)
    split at h3
    ·have:=of_decide_eq_true h3;exact⟨by omega,by rw[if_neg (by omega)];omega,by omega,(DZ (by omega)).symm⟩
    ·split at h3
     ·have:=of_decide_eq_true h3;obtain⟨rfl,q⟩:=this;exact⟨by omega,by rw[if_neg (by omega)];omega,by omega,h0.symm⟩
     ·split at h3
      ·have:=of_decide_eq_true h3;obtain⟨_,rfl,q⟩:=this;exact⟨by omega,by rw[if_neg (by omega)];omega,by omega,h0.symm⟩
      ·have:=of_decide_eq_true h3;obtain⟨_,_,rfl,q⟩:=this;exact⟨by omega,by rw[if_pos (by omega)];omega,by omega,h0.symm⟩
   obtain⟨k1,k2,k3,k4⟩:=key;rw[dM,if_neg (by omega),if_neg (by rintro(q|q|q)<;>first|exact q k2|omega|exact q k4)]
   exact ih
  ·cases h
theorem xL{o:Bool}:∀(cs:List bc) (depth left l:Int),cp o cs (depth+1) left=some l->0<=l->cW cs depth left=l
 |[],depth,left,l,h,h0=>by rw[cp]at h;cases h;rw[cW]
 |k::ks,depth,left,l,h,h0=>by
  rw[cp]at h
  split at h
  ·rename_i l' hl;have h1:=Lp k _ _ _ hl;have h2:=mB k _ _ _ hl;rw[cW,h1,if_neg (by omega)]
   exact xL ks _ _ _ h h0
  ·cases h
end
theorem DL{op n fold:Int}{name:ca}{nc nk:Nat}(h:gI op name n fold nc nk=true):∃x,bF op=some x/\(nk:Int)=x.kids/\(nc:Int)=x.aD:=by
 unfold gI at h
 split at h
 ·cases h
 ·rename_i x hx;simp only[Bool.and_eq_true,decide_eq_true_eq]at h;exact⟨x,hx,h.1.1.1.1,h.1.1.1.2⟩
theorem vh{az names:List ca}:∀(ds:List TJ) (a left l:Int),iP az names ds a left=some l->0<=left->∀(i:Nat) (h:i<ds.length),∃l1 l2,fF az names (a+i) ds[i].exp 1 l1=some l2/\0<=l1/\l1<=left
 |d::ds,a,left,l,h,h0,i,hi=>by
  rw[iP]at h
  split at h
  ·rename_i l' hl;have:=lF _ _ _ _ hl;cases i with
   |zero=>exact⟨left,l',by simpa using hl,h0,Int.le_refl _⟩
   |succ i=>
    obtain⟨l1,l2,q1,q2,q3⟩:=vh ds _ _ _ h (by omega) i (by simpa using hi)
    refine⟨l1,l2,?_,q2,by omega⟩
    rw[show a+((i+1:Nat):Int)=a+1+(i:Int)by omega];simpa using q1
  ·cases h
def fI(M:Nat->Bool)(k:Nat):Nat->Bool:=λx=>if x=k then true else M x
def Em(n:Nat)(M:Nat->Bool):Nat:=(List.range n).countP λk=>!M k
theorem F7{n:Nat}{M M':Nat->Bool}(h:∀k,M k=true->M' k=true):Em n M'<=Em n M:=by
 refine List.countP_mono_left λk _ hk=>?_
 cases hm:M k with
 |false=>rfl
 |true=>rw[h k hm]at hk;cases hk
theorem qA{n:Nat}{M:Nat->Bool}{k:Nat}(hk:k<n)(hm:M k=false):Em n (fI M k)<Em n M:=by
 unfold Em
 induction n with
 |zero=>omega
 |succ n ih=>
  rw[List.range_succ,List.countP_append,List.countP_append];by_cases e:k=n
  ·subst e;have h1:(List.range k).countP (λx=>!fI M k x)<=(List.range k).countP (λx=>!M x):=F7 (n:=k) λx hx=>by unfold fI;split<;>simp[hx]
   simp[fI,hm];simp[fI]at h1;omega
  ·have:=ih (by omega)
   have hn:fI M k n=M n:=by unfold fI;rw[if_neg (by omega)]
   simp only[List.countP_cons,List.countP_nil,hn];omega
structure sg(S:Nat->Nat->Prop)(M M':Nat->Bool)(d:Nat):Prop where
 sub:∀k,M k=true->M' k=true
 succ:∀k,S d k->M' k=true
 Pf:∀j,M' j=true->M j=false->∀k,S j k->M' k=true
 sound:∀k,M' k=true->M k=true\/ Path S d k
structure iF(S:Nat->Nat->Prop)(M M':Nat->Bool)(d:Nat)(done:Nat->Prop):Prop where
 sub:∀k,M k=true->M' k=true
 succ:∀k,done k->M' k=true
 Pf:∀j,M' j=true->M j=false->∀k,S j k->M' k=true
 sound:∀k,M' k=true->M k=true\/ Path S d k
theorem iF.start{S:Nat->Nat->Prop}{M:Nat->Bool}{d:Nat}{done:Nat->Prop}(h:∀k,¬done k):iF S M M d done:=
 ⟨λ_ h=>h,λk hk=>absurd hk (h k),λj h1 h2=>absurd (h1.symm.trans h2) (by simp),λk h=>.inl h⟩
theorem iF.same{S:Nat->Nat->Prop}{M M':Nat->Bool}{d:Nat}{done done':Nat->Prop}(h:iF S M M' d done)(hd:∀k,done' k->done k\/ M' k=true):iF S M M' d done':=
 ⟨h.sub,λk hk=>(hd k hk).elim (h.succ k) id,h.Pf,h.sound⟩
theorem iF.step{S:Nat->Nat->Prop}{M M1 M2:Nat->Bool}{d x:Nat}{done done':Nat->Prop}(h:iF S M M1 d done)(hs:S d x)(hp:sg S (fI M1 x) M2 x)(hd:∀k,done' k->done k\/ k=x):iF S M M2 d done':=by
 have hx:M2 x=true:=hp.sub x (by simp[fI])
 have hsub:∀k,M1 k=true->M2 k=true:=λk hk=>hp.sub k (by unfold fI;split<;>simp[hk])
 refine⟨λk hk=>hsub k (h.sub k hk),λk hk=>?_,λj h1 h2 k hk=>?_,λk hk=>?_⟩
 ·rcases hd k hk with q|rfl
  ·exact hsub k (h.succ k q)
  ·exact hx
 ·by_cases e:j=x
  ·subst e;exact hp.succ k hk
  ·cases hm:M1 j with
   |true=>exact hsub k (h.Pf j hm h2 k hk)
   |false=>exact hp.Pf j h1 (by unfold fI;rw[if_neg e];exact hm) k hk
 ·rcases hp.sound k hk with q|q
  ·unfold fI at q
   split at q
   ·rename_i e;subst e;exact .inr (.one hs)
   ·exact h.sound k q
  ·exact .inr (.cons hs q)
theorem iF.end{S:Nat->Nat->Prop}{M M':Nat->Bool}{d:Nat}{done:Nat->Prop}(h:iF S M M' d done)(hd:∀k,S d k->done k):sg S M M' d:=⟨h.sub,λk hk=>h.succ k (hd k hk),h.Pf,h.sound⟩
theorem sg.all{S:Nat->Nat->Prop}{M:Nat->Bool}{d:Nat}(h:sg S (λ_=>false) M d)(k:Nat):M k=true↔Path S d k:=by
 constructor
 ·intro hk;rcases h.sound k hk with q|q
  ·cases q
  ·exact q
 ·intro hp;have key:∀a b,Path S a b->(a=d\/ M a=true)->M b=true:=by
   intro a b hab;have hs:∀a b,S a b->(a=d\/ M a=true)->M b=true:=λa b hb ha=>by
    rcases ha with rfl|ha
    ·exact h.succ b hb
    ·exact h.Pf a ha rfl b hb
   induction hab with
   |one hb=>exact hs _ _ hb
   |cons hb _ ih=>exact λha=>ih (.inr (hs _ _ hb ha))
  exact key d k hp (.inl rfl)
def yE:Rec:=⟨0,0,0⟩
def Qs(r:Rec):Prop:=0<=r.at_/\r.at_<=200/\cq r.key/\cq r.val
def Mw(n:dg):Prop:=0<=n.id/\n.id<=999/\1<=n.Mp/\n.Mp<=99/\Qs n.aa
def EZ(n:dg):Prop:=n.id=0/\n.Mp=0/\n.aa.key=0/\n.aa.val=0/\0<=n.aa.at_/\n.aa.at_<=201
def R2(n:dg)(az:Int):Prop:=0<=n.src/\n.src<=az-1/\(n.Kb=1/\Mw n\/ n.Kb=2/\Mw n/\n.aa=yE\/ n.Kb=3/\EZ n)
instance (r:Rec):Decidable (Qs r):=by unfold Qs cq;infer_instance
instance (n:dg):Decidable (Mw n):=by unfold Mw;infer_instance
instance (n:dg):Decidable (EZ n):=by unfold EZ;infer_instance
instance (n:dg) (s:Int):Decidable (R2 n s):=by unfold R2;infer_instance
def KU(l:List dg)(az:Int):Prop:=1<=az/\az<=4/\l.length<=60/\∀n∈l,R2 n az
instance (l:List dg) (s:Int):Decidable (KU l s):=by unfold KU;infer_instance
def mL(a b:dg):Bool:=decide (a.Kb≠3/\b.Kb≠3/\a.src=b.src/\a.id=b.id/\a.Mp=b.Mp/\a≠b)
def gT(l:List dg)(k:Nat):Option Nat:=match l[k]? with
 |none=>none
 |some b=>(l.take k).findIdx? λa=>mL a b
def lS(l:List dg):Nat->Nat->Option (Nat×Nat)
 |0,_=>none
 |m+1,k=>match gT l k with
  |some i=>some (i,k)
  |none=>lS l m (k+1)
def pX(l:List dg):Option (Nat×Nat):=lS l l.length 0
def Nb(l:List dg)(az:Int):Prop:=KU l az/\pX l=none
instance (l:List dg) (s:Int):Decidable (Nb l s):=by unfold Nb;infer_instance
theorem rP{l:List dg}:∀(m k:Nat),(∀j,k<=j->j<k+m->gT l j=none)->lS l m k=none
 |0,k,_=>rfl
 |m+1,k,h=>by
  rw[lS,h k (by omega) (by omega)]
  exact rP m (k+1) λj h1 h2=>h j (by omega) (by omega)
theorem rO{l:List dg}:∀(m k j i:Nat),k<=j->j<k+m->(∀j',k<=j'->j'<j->gT l j'=none)->gT l j=some i->lS l m k=some (i,j)
 |0,k,j,i,h1,h2,_,_=>by omega
 |m+1,k,j,i,h1,h2,h3,h4=>by
  rw[lS];by_cases e:j=k
  ·subst e;rw[h4]
  ·rw[h3 k (by omega) (by omega)]
   exact rO m (k+1) j i (by omega) (by omega) (λj' a b=>h3 j' (by omega) b) h4
theorem x6{l:List dg}(h:∀j,j<l.length->gT l j=none):pX l=none:=rP _ _ λj _ hj=>h j (by omega)
theorem Jq{l:List dg}{i j:Nat}(hj:j<l.length)(h:∀j',j'<j->gT l j'=none)(hi:gT l j=some i):pX l=some (i,j):=rO _ _ j i (by omega) (by omega) (λj' _ h'=>h j' h') hi
def hearL(src id:Int)(acc:Option dg)(n:dg):Option dg:=
 if n.Kb≠3/\n.src=src/\n.id=id/\(∀w,acc=some w->w.Mp<n.Mp)then some n else acc
def lastM(l:List dg)(src id:Int):Option dg:=l.foldl (hearL src id) none
def hearM(src:Int)(acc:Int)(n:dg):Int:=if n.Kb=3/\n.src=src then jN acc n.aa.at_ else acc
def markM(l:List dg)(src:Int):Int:=l.foldl (hearM src) 0
def U2(l:List dg)(src id:Int):List Event:=match lastM l src id with
 |some n=>if n.Kb=1 then[⟨src,id,n.aa⟩]else[]
 |none=>[]
def stepM(l:List dg)(n:dg):List Event×List Event:=
 if n.Kb=3 then([],[])else if U2 l n.src n.id=U2 (l++[n]) n.src n.id then([],[])else(U2 l n.src n.id,U2 (l++[n]) n.src n.id)
def lateAt(l:List dg)(n:dg):Bool:=((stepM l n).1++(stepM l n).2).any λe=>decide (e.aa.at_<markM l n.src)
def Ii(l:List dg):List dg->Nat->List Nat
 |[],_=>[]
 |n::ns,i=>(if lateAt l n=true then[i]else[])++Ii (l++[n]) ns (i+1)
def lateM(l:List dg):List Nat:=Ii [] l 0
def Sm(a b:Event):Prop:=a.aa.at_<b.aa.at_\/ a.aa.at_=b.aa.at_/\(a.src<b.src\/ a.src=b.src/\a.id<b.id)
theorem iu{α:Type}{lt:α->α->Prop}(irr:∀a,¬lt a a)(tr:∀a b c,lt a b->lt b c->lt a c):∀{l m:List α},l.Pairwise lt->m.Pairwise lt->(∀x,x∈l↔x∈m)->l=m
 |[],[],_,_,_=>rfl
 |[],b::m,_,_,h=>absurd ((h b).2 (by simp)) (by simp)
 |a::l,[],_,_,h=>absurd ((h a).1 (by simp)) (by simp)
 |a::l,b::m,hl,hm,h=>by
  rw[List.pairwise_cons]at hl hm;have e:a=b:=by
   rcases List.mem_cons.1 ((h a).1 (by simp))with q|q
   ·exact q
   ·rcases List.mem_cons.1 ((h b).2 (by simp))with r|r
    ·exact r.symm
    ·exact absurd (tr _ _ _ (hm.1 a q) (hl.1 b r)) (irr b)
  subst e
  congr 1
  refine iu irr tr hl.2 hm.2 λx=>?_
  have hx:=h x;simp only[List.mem_cons]at hx;constructor
  ·intro tA;rcases hx.1 (.inr tA)with rfl|q
   ·exact absurd (hl.1 x tA) (irr x)
   ·exact q
  ·intro hxm;rcases hx.2 (.inr hxm)with rfl|q
   ·exact absurd (hm.1 x hxm) (irr x)
   ·exact q
end Go.Aft
end
section
set_option maxRecDepth 20000
namespace Go.Aft
structure Item where
 aa:Rec
 n:Int
 deriving DecidableEq
instance:Inhabited Item:=⟨⟨default,0⟩⟩
abbrev cr:=List Item
def ak(x:Item):List DV:=[.k (.int .i64 x.aa.at_),.k (.int .i64 x.aa.key),.k (.int .i64 x.aa.val),.k (.int .i64 x.n)]
@[simp] theorem CV (x:Item):(ak x).length=4:=rfl
def bX(b:cr):List DV:=[.sl (b.map ak)]
@[simp] theorem rBag_len (b:cr):(bX b).length=1:=rfl
def cM(a b:Rec):Bool:=decide (a.at_<b.at_\/ a.at_=b.at_/\(a.key<b.key\/ a.key=b.key/\a.val<b.val))
theorem oe(a:Rec):cM a a=false:=by simp[cM]
theorem ko{a b c:Rec}(h:cM a b=true)(k:cM b c=true):cM a c=true:=by
 simp only[cM,decide_eq_true_eq]at*;omega
theorem vU{a b:Rec}(h:cM a b=false)(k:cM b a=false):a=b:=by
 simp only[cM,decide_eq_false_iff_not]at*;obtain⟨a1,a2,a3⟩:=a;obtain⟨b1,b2,b3⟩:=b;simp only at*;have:a1=b1/\a2=b2/\a3=b3:=by omega
 simp[this]
def bQ(l:List Item)(r:Rec):Int:=match l with
 |[]=>0
 |x::l=>(if x.aa=r then x.n else 0)+bQ l r
def oZ(l:List Item):Prop:=l.Pairwise λa b=>cM a.aa b.aa=true
def vW(x:Item):List Item->List Item
 |[]=>[x]
 |y::l=>if x.aa=y.aa then⟨y.aa,y.n+x.n⟩::l else if cM x.aa y.aa then x::y::l else y::vW x l
def s8:List Item->List Item
 |[]=>[]
 |x::l=>vW x (s8 l)
def mR(l:List Item):cr:=(s8 l).filter λx=>decide (x.n≠0)
def bV(l:List Item)(top:Int):cr:=mR (l.filter λx=>decide (0<=x.aa.at_/\x.aa.at_<=top))
theorem Hj{x:Item}:∀{l:List Item} {y:Item},y∈vW x l->y=x\/ y∈l\/ ∃z∈l,z.aa=x.aa/\y=⟨z.aa,z.n+x.n⟩
 |[],y,h=>by simp[vW]at h;exact .inl h
 |z::l,y,h=>by
  rw[vW]at h
  split at h
  ·rename_i e;rcases List.mem_cons.1 h with q|q
   ·exact .inr (.inr ⟨z,by simp,e.symm,q⟩)
   ·exact .inr (.inl (by simp[q]))
  ·split at h
   ·rcases List.mem_cons.1 h with q|q
    ·exact .inl q
    ·exact .inr (.inl q)
   ·rcases List.mem_cons.1 h with q|q
    ·exact .inr (.inl (by simp[q]))
    ·rcases Hj q with q|q|⟨w,q1,q2⟩
     ·exact .inl q
     ·exact .inr (.inl (by simp[q]))
     ·exact .inr (.inr ⟨w,by simp[q1],q2⟩)
theorem Ho{x:Item}:∀{l:List Item},oZ l->oZ (vW x l)
 |[],h=>by simp[vW,oZ]
 |y::l,h=>by
  have h':=List.pairwise_cons.1 h;rw[vW]
  split
  ·exact List.pairwise_cons.2 ⟨λz hz=>h'.1 z hz,h'.2⟩
  ·rename_i hne
   split
   ·rename_i hlt;refine List.pairwise_cons.2 ⟨λz hz=>?_,h⟩
    rcases List.mem_cons.1 hz with q|q
    ·rw[q];exact hlt
    ·exact ko hlt (h'.1 z q)
   ·rename_i hlt;have hyx:cM y.aa x.aa=true:=by
     cases q:cM y.aa x.aa with
     |true=>rfl
     |false=>exact absurd (vU (by simpa using hlt) q) hne
    refine List.pairwise_cons.2 ⟨λz hz=>?_,Ho h'.2⟩
    rcases Hj hz with q|q|⟨w,q1,q2,q3⟩
    ·rw[q];exact hyx
    ·exact h'.1 z q
    ·rw[q3];exact h'.1 w q1
theorem si:∀l:List Item,oZ (s8 l)
 |[]=>.nil
 |x::l=>Ho (si l)
theorem oP(l:List Item):oZ (mR l):=(si l).filter _
theorem DQ(x:Item)(r:Rec):∀l:List Item,bQ (vW x l) r=(if x.aa=r then x.n else 0)+bQ l r
 |[]=>rfl
 |y::l=>by
  rw[vW]
  split
  ·rename_i e;rw[bQ,bQ,e];simp only
   split<;>omega
  ·split
   ·rw[bQ]
   ·rw[bQ,bQ,DQ x r l];omega
theorem wV(r:Rec):∀l:List Item,bQ (s8 l) r=bQ l r
 |[]=>rfl
 |x::l=>by rw[s8,DQ,wV r l,bQ]
theorem oK{r:Rec}:∀{l:List Item},(∀x∈l,x.aa≠r)->bQ l r=0
 |[],_=>rfl
 |x::l,h=>by rw[bQ,if_neg (h x (by simp)),oK λy hy=>h y (by simp[hy])];rfl
theorem oM{x:Item}:∀{l:List Item},oZ l->x∈l->bQ l x.aa=x.n
 |y::l,h,hx=>by
  have h':=List.pairwise_cons.1 h;rw[bQ];rcases List.mem_cons.1 hx with q|q
  ·subst q;rw[if_pos rfl,oK λz hz e=>by have:=h'.1 z hz;rw[e,oe]at this;cases this];omega
  ·rw[if_neg,oM h'.2 q];·omega
   intro e;have:=h'.1 x q;rw[e,oe]at this;cases this
theorem rN{r:Rec}:∀{l:List Item},bQ l r≠0->∃x∈l,x.aa=r
 |[],h=>absurd rfl h
 |y::l,h=>by
  by_cases e:y.aa=r
  ·exact⟨y,by simp,e⟩
  ·rw[bQ,if_neg e]at h;obtain⟨x,h1,h2⟩:=rN (r:=r) (l:=l) (by omega)
   exact⟨x,by simp[h1],h2⟩
theorem jj{l:List Item}{x:Item}:x∈mR l↔x.n≠0/\x.n=bQ l x.aa:=by
 simp only[mR,List.mem_filter,decide_eq_true_eq];constructor
 ·rintro⟨h1,h2⟩;exact⟨h2,by rw[<-wV,oM (si l) h1]⟩
 ·rintro⟨h1,h2⟩;refine⟨?_,h1⟩;rw[<-wV]at h2;obtain⟨y,hy,e⟩:=rN (r:=x.aa) (l:=s8 l) (by rw[<-h2];exact h1)
  have:=oM (si l) hy;rw[e,<-h2]at this;have e2:x=y:=by
   obtain⟨xr,xn⟩:=x;obtain⟨yr,yn⟩:=y;simp only at e this;rw[e,this]
  rw[e2];exact hy
theorem oZ.unique{a b:List Item}(ha:oZ a)(hb:oZ b)(h:∀x,x∈a↔x∈b):a=b:=
 iu (lt:=λa b:Item=>cM a.aa b.aa=true) (λa=>by simp[oe]) (λ_ _ _=>ko) ha hb h
theorem vB{l:List Item}{b:cr}(hb:oZ b)(h0:∀x∈b,x.n≠0)(h:∀r,bQ b r=bQ l r):b=mR l:=by
 refine hb.unique (oP l) λx=>?_
 rw[jj];constructor
 ·intro hx;exact⟨h0 x hx,by rw[<-h,oM hb hx]⟩
 ·rintro⟨h1,h2⟩;rw[<-h]at h2;obtain⟨y,hy,e⟩:=rN (r:=x.aa) (l:=b) (by rw[<-h2];exact h1)
  have:=oM hb hy;rw[e,<-h2]at this;have e2:x=y:=by
   obtain⟨xr,xn⟩:=x;obtain⟨yr,yn⟩:=y;simp only at e this;rw[e,this]
  rw[e2];exact hy
theorem wW{a b:List Item}(h:a.Perm b)(r:Rec):bQ a r=bQ b r:=by
 induction h with
 |nil=>rfl
 |cons x _ ih=>rw[bQ,bQ,ih]
 |swap x y l=>rw[bQ,bQ,bQ,bQ];omega
 |trans _ _ i j=>exact i.trans j
theorem BD(l:List Item)(r:Rec):bQ (mR l) r=bQ l r:=by
 by_cases h:bQ l r=0
 ·rw[h];refine oK λx hx e=>?_
  have:=jj.1 hx;rw[e,h]at this;omega
 ·exact(oM (oP l) (jj (x:=⟨r,bQ l r⟩).2 ⟨h,rfl⟩):_)
theorem BC{a b:List Item}(h:∀r,bQ a r=bQ b r):mR a=mR b:=
 vB (oP a) (λx hx=>(jj.1 hx).1) λr=>by rw[BD,h]
theorem Pv{a b:List Item}(h:a.Perm b):mR a=mR b:=BC λr=>wW h r
theorem Es{a b:List Item}(h:a.Perm b)(top:Int):bV a top=bV b top:=Pv (h.filter _)
def cG(f:Int)(st:Nat×Int)(x:Item):Nat×Int:=
 (st.1+1,if f=1 then st.2+x.n else if f=2 then st.2+x.n*x.aa.val else if f=3 then(if st.1=0\/ x.aa.val<st.2 then x.aa.val else st.2)else if f=4 then(if st.1=0\/ st.2<x.aa.val then x.aa.val else st.2)else st.2)
def foldI(f:Int)(l:List Item):Int:=eR (l.foldl (cG f) (0,0)).2
def dU(n:Int)(l:List Item):List Item:=l.map λx=>⟨⟨x.aa.at_+n,x.aa.key,x.aa.val⟩,x.n⟩
def mG(low:Int)(l:List Item):List Item:=l.dropWhile λx=>decide (x.aa.at_<low)
def bM(low high:Int)(l:List Item):List Item:=(mG low l).takeWhile λx=>decide (x.aa.at_<=high)
def aZ:List Item->List Int
 |[]=>[]
 |x::l=>x.aa.key::(aZ l).filter λk=>decide (k≠x.aa.key)
def rowOf(k:Int)(b:List Item):List Item:=b.filter λx=>decide (x.aa.key=k)
def rC(n:Int)(_:List Item)(t:Int):Option (Int×Int):=some (t.tdiv n*n,t.tdiv n*n+n-1)
def pg(n:Int)(_:List Item)(t:Int):Option (Int×Int):=some (t-n,t)
def tM(_:List Item)(t:Int):Option (Int×Int):=some (0,t)
def yw(n:Int)(l:List Item):Nat->Int->Int
 |0,low=>low
 |k+1,low=>match bM (low-n) (low-1) l with
  |[]=>low
  |x::_=>yw n l k x.aa.at_
def qd(n:Int)(l:List Item)(t:Int):Option (Int×Int):=match bM (t+1) (t+n) l with
 |[]=>some (yw n l 201 t,t)
 |_=>none
def ec(f more key:Int)(sp:Int->Option (Int×Int))(row:List Item):List Item->Int->List Item
 |[],_=>[]
 |x::l,last=>match sp x.aa.at_ with
  |none=>ec f more key sp row l last
  |some (low,high)=>if high=last then ec f more key sp row l last else⟨⟨high+more,key,foldI f (bM low high row)⟩,1⟩::ec f more key sp row l high
def sk(f more:Int)(sp:List Item->Int->Option (Int×Int))(b:List Item)(k:Int):List Item:=ec f more k (sp (rowOf k b)) (rowOf k b) (rowOf k b) (-1)
def fS(f more:Int)(sp:List Item->Int->Option (Int×Int))(b:List Item):List Item:=(aZ b).flatMap (sk f more sp b)
def jJ(c:bc)(b:List Item):List Item:=b.filter λx=>decide (ek x.aa 0 c≠0)
def Bo(k v:bc)(b:List Item):List Item:=b.map λx=>⟨⟨x.aa.at_,ek x.aa 0 k,ek x.aa 0 v⟩,x.n⟩
def xw(b:List Item):List Item:=b.map λx=>⟨x.aa,1⟩
def fq(c:bc)(x y:Item):Item:=⟨⟨jN x.aa.at_ y.aa.at_,x.aa.key,ek ⟨jN x.aa.at_ y.aa.at_,x.aa.key,x.aa.val⟩ y.aa.val c⟩,x.n*y.n⟩
def kZ(n:Int)(c:bc)(a b:List Item):List Item:=a.flatMap λx=>(bM (x.aa.at_-n) (x.aa.at_+n) (rowOf x.aa.key b)).map (fq c x)
def jG(c:bc)(a b:List Item):List Item:=a.flatMap λx=>match(bM 0 x.aa.at_ (rowOf x.aa.key b)).getLast? with
 |none=>[]
 |some y=>[⟨⟨x.aa.at_,x.aa.key,ek x.aa y.aa.val c⟩,x.n⟩]
def tw(n:Int)(a b:List Item):List Item:=a.filter λx=>(bM (x.aa.at_-n) (x.aa.at_+n) (rowOf x.aa.key b)).isEmpty
structure b9 where
 az:List cr
 aj:List cr
def gV(p:Prog)(W:b9)(op:Int)(name:ca)(n f:Int)(cs:List bc)(ks:List cr):List Item:=
 let a:=ks.getD 0 []
 let b:=ks.getD 1 []
 let c:=cs.getD 0 default
 if op=1 then W.az.getD (idx p.az name).toNat []
 else if op=2 then W.aj.getD (idx (an p) name).toNat []
 else if op=3 then dU n (W.aj.getD (idx (an p) name).toNat [])
 else if op=4 then a++b
 else if op=5 then jJ c a
 else if op=6 then Bo c (cs.getD 1 default) a
 else if op=7 then dU n a
 else if op=8 then fS f 0 (rC n) a
 else if op=9 then fS f 0 (pg n) a
 else if op=10 then fS f 0 tM a
 else if op=11 then fS f n (qd n) a
 else if op=12 then kZ n c a b
 else if op=13 then jG c a b
 else if op=14 then tw n a b
 else xw a
def gH(b:cr):Bool:=decide (b.length<=300)&&b.all λx=>decide (x.n<=1000000)
mutual
def fW(p:Prog)(W:b9)(top:Int):bw->Option cr
 |.mk op name n f cs kids=>match gZ p W top kids with
  |none=>none
  |some ks=>if gH (bV (gV p W op name n f cs ks) top)then some (bV (gV p W op name n f cs ks) top)else none
def gZ(p:Prog)(W:b9)(top:Int):List bw->Option (List cr)
 |[]=>some []
 |e::es=>match fW p W top e with
  |none=>none
  |some b=>match gZ p W top es with
   |none=>none
   |some bs=>some (b::bs)
end
end Go.Aft
end
