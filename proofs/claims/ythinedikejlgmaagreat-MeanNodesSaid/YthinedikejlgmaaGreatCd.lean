import Derived.Test.YthinedikejlgmaaGreatCc
import Derived.Test.YthinedikejlgmaaGreatA34
set_option linter.all false
set_option maxRecDepth 20000
namespace Go.Aft
open Go.Proofs.Tryz
theorem AW.bg3{P:Program}{rd:RD}{x:Code}{s:S}{Q:QT}(t:Nat){A:Option Addr}{c:Nat}(ht:s.env t=.d (.k (.slice A 0 c)))(hc:c<=maxLen)(h:@AW P rd ⟨x⟩ {s with env:=eL s.env t (sl [])} Q):@AW P rd ⟨x⟩ s Q:=by
 refine λE a w hs=>h E a w ?_
 obtain⟨h2,G,lm,h1,hM,hx,aK,hn⟩:=hs;refine⟨h2,G,lm,h1,hM,hx,λu=>?_,hn⟩
 by_cases e:u=t
 ·subst e;have:=aK u;rw[ht]at this;simp only[eG];unfold LR DR at this|-;exact⟨A,c,0,this.1,Nat.zero_le _,hc,λr hr=>absurd hr List.not_mem_nil,.inl rfl⟩
 ·simp only[aX _ _ e];exact aK u
theorem Cd(A:Option Addr)(c:Nat)(hc:c<=maxLen):aC prog 78 [.d (.k (.slice A 0 c))] (sl []):=by
 intro H;have cc:=au (p:=bf [] [] [5]);refine aG.dG (au (p:=bf [] [] [5])) func78 rfl call78 (by rw[ntmps78];simp) rfl λhf hw=>?_
 simp[ntmps78,results78];refine AW.seq cc ?_;simp;refine AW.seq cc ?_;simp;cases A with
 |none=>
  simp;exact λhz=>bI hz
 |some a=>
  simp;refine AW.bg3 (A:=some a) (c:=c) 0 (by simp) hc ?_
  simp;refine AW.seq cc ?_;simp;refine eO.ev ?_;have ob:∀o,(H.add o).obj H.next=some o:=λo=>by simp[GH.ax]
  simp[ob];refine AW.cM (n:=H.next) (g:=0) (sz:=4) (e:=86) (ex:=true) [] (ob _) rfl (by simp) ?_
  refine AW.ev cc ?_;simp;exact λhz=>aL (by simp[GH.aq]) (λm hm=>kH hw (Nat.le_refl _) (λk hk=>by rw[GH.ax,if_neg (by omega)]) hm) hw.none
theorem M4:aC prog 78 [sl []] (sl []):=λH=>⟨(Cd none 0 (Nat.zero_le _) H).1,λG w vs h1 h2 h3=>by
 unfold bH at h3;obtain⟨v,vs',rfl,h4,h5⟩:=h3;unfold LR DR at h4;obtain⟨a,cap,sz,e,_,hc,_⟩:=h4;refine(Cd a cap hc H).2 G w _ h1 h2 ?_;unfold bH;refine⟨v,vs',rfl,?_,h5⟩;unfold LR DR;exact⟨e,rfl⟩⟩
theorem M3(l:List Item)(hl:l.length<=1000):aC prog 78 [sl (l.map ak)] (sl (l.map ak)):=by
 cases l with
 |nil=>exact M4
 |cons x l=>exact ER x l (by simp only[List.length_cons]at hl;omega)
mutual
theorem JU{p:Prog}{W:bZ}{T:Int}:∀(e:bz) (b:cg),cZ p W T e=some b->∀x∈bc e,∃b',cZ p W T x=some b'
 |.mk op name n f cs kids,b,h,x,hx=>by
  rw[bc]at hx;rcases List.mem_cons.1 hx with q|q
  ·rw[q];exact⟨b,h⟩
  ·rw[cZ]at h
   split at h
   ·cases h
   ·rename_i ks hks;exact Ew kids ks hks x q
theorem Ew{p:Prog}{W:bZ}{T:Int}:∀(es:List bz) (ks:List cg),eC p W T es=some ks->∀x∈bn es,∃b',cZ p W T x=some b'
 |[],ks,h,x,hx=>by rw[bn]at hx;cases hx
 |e::es,ks,h,x,hx=>by
  rw[eC]at h
  split at h
  ·cases h
  ·rename_i b hb
   split at h
   ·cases h
   ·rename_i bs v8;rw[bn]at hx;rcases List.mem_append.1 hx with q|q
    ·exact JU e b hb x q
    ·exact Ew es bs v8 x q
end
theorem yx{p:Prog}(hp:formed p){l:List Event}{D:List cg}(h:dw p l=some D){d:Nat}(hd:d<p.ai.length){x:bz}(hx:x∈bc p.ai[d].exp):∃b,cZ p ⟨fH p l,D⟩ 200 x=some b:=by
 have:=((Ps hp l D).1 h).2 d hd;rw[fS hd]at this;exact JU _ _ this x hx
def IB(p:Prog)(l:List Event)(D:List cg)(d node:Nat):cg:=(cZ p ⟨fH p l,D⟩ 200 ((bc (cQ p d)).getD node default)).getD []
def sg(p:Prog)(d node:Int):Prop:=0<=d/\d<p.ai.length/\0<=node/\node<(bc (cQ p d.toNat)).length
instance (p:Prog) (d node:Int):Decidable (sg p d node):=inferInstanceAs (Decidable (_/\_))
noncomputable def ud (p:Prog) (l:List Event) (d node:Int):LV:=if dR p l=true/\sg p d node then(match dw p l with
 |some D=>.dh [b9 (IB p l D d.toNat node.toNat),aH 0]
 |none=>.dh [sl [],aH 3])else .dh [sl [],aH 2]
mutual
theorem Cj:∀(e x y:bz),x∈bc e->y∈bc x->y∈bc e
 |.mk op name n f cs kids,x,y,hx,hy=>by
  rw[bc]at hx|-;rcases List.mem_cons.1 hx with q|q
  ·rw[q,bc]at hy;exact hy
  ·exact List.mem_cons_of_mem _ (yP kids x y q hy)
theorem yP:∀(es:List bz) (x y:bz),x∈bn es->y∈bc x->y∈bn es
 |[],x,y,hx,hy=>by rw[bn]at hx;cases hx
 |e::es,x,y,hx,hy=>by
  rw[bn]at hx|-;rcases List.mem_append.1 hx with q|q
  ·exact List.mem_append_left _ (Cj e x y q hy)
  ·exact List.mem_append_right _ (yP es x y q hy)
end
theorem Ez{p:Prog}{e x:bz}(h:iP p e)(hx:x∈bc e):iP p x:=λy hy=>h y (Cj e x y hx hy)
theorem mean_Node(p:Prog)(hs:∀s∈p.az++an p,cN s)(l:List Event)(d node:Int):aC prog 30 [lv (ar p),sl (l.map aQ),aH d,aH node] (ud p l d node):=by
 intro H;have cc:=au (p:=bf [4] [] []);refine aG.dG (au (p:=bf [4] [] [])) func30 rfl call30 (by rw[ntmps30];simp) rfl λhf hw=>?_
 have h1:=p9 p hs l;simp[ar]at h1;simp[ntmps30,results30,ar]at hf|-;refine AW.seq cc ?_;simp;refine AW.seq cc ?_;simp;refine EC.aJ h1 ?_;have kX:¬(dR p l=true/\sg p d node)->ud p l d node=.dh [sl [],aH 2]:=λq=>if_neg q
 cases ha:dR p l with
 |false=>
  simp;exact λhz=>⟨bI hz,by rw[kX (by rw[ha];simp)];rfl⟩
 |true=>
  by_cases d0:d<0
  ·simp[d0];exact λhz=>⟨bI hz,by rw[kX λq=>by have:=q.2.1;omega];rfl⟩
  by_cases d1:(p.ai.length:Int)<=d
  ·simp[d0,d1];exact λhz=>⟨bI hz,by rw[kX λq=>by have:=q.2.2.1;omega];rfl⟩
  obtain⟨k,rfl⟩:∃k:Nat,d=k:=⟨d.toNat,by omega⟩
  have hk:k<p.ai.length:=by omega
  obtain⟨hp,hl,hi⟩:=iO ha;have Sy:=mU hp;have hkn:=uJ p hs hp (by have:=Sy.s1;omega) (by have:=Sy.s4;omega) (fA hp) Sy.dif (jb hp) l hl hi H
  have hpa:=zX p hp k hk;obtain⟨L,hL⟩:∃L,bc p.ai[k].exp=L:=⟨_,rfl⟩;have hin:sg p k node↔0<=node/\node<L.length:=by
   unfold sg;rw[show((k:Int)).toNat=k from rfl,fS hk,hL]
   omega
  rw[hL]at hpa;simp[ar]at hkn hpa;simp[d0,d1];refine AW.seq cc ?_;simp;refine EC.aJ hpa ?_;simp;refine AW.seq cc ?_;by_cases n0:node<0
  ·simp[n0];exact λhz=>⟨bI hz,by rw[kX λq=>by have:=hin.1 q.2;omega];rfl⟩
  by_cases n1:(L.length:Int)<=node
  ·simp[n0,n1];exact λhz=>⟨bI hz,by rw[kX λq=>by have:=hin.1 q.2;omega];rfl⟩
  obtain⟨m,rfl⟩:∃m:Nat,node=m:=⟨node.toNat,by omega⟩
  have hm:m<L.length:=by omega
  simp[n0,n1];refine AW.seq cc ?_;simp;refine EC.of hkn (λv H2 hR=>?_) (λv H2 hR=>by
   unfold nj at hR
   split at hR
   ·obtain⟨q,_⟩:=hR;cases q
   ·obtain⟨_,_,_,_,_,q,_⟩:=hR;cases q)
  unfold nj at hR;cases hkk:dw p l with
  |none=>
   rw[hkk]at hR;obtain⟨q1,rfl⟩:=hR;cases q1;simp;refine AW.seq cc ?_;simp;exact λhz=>⟨bI hz,by unfold ud;rw[if_pos ⟨ha,hin.2 (by omega)⟩,hkk];rfl⟩
  |some D=>
   rw[hkk]at hR;obtain⟨n,ms,mn,mv,ma,q1,q2,hW,q4,q5,q6⟩:=hR;cases q1;obtain⟨nr,zd⟩:=vV ha hkk;have Py:∀b∈fH p l,bB b:=λb hb=>by
    obtain⟨i,_,rfl⟩:=List.mem_map.1 hb;exact sY hl hi (i:Nat)
   obtain⟨e,he⟩:∃e,L[m]=e:=⟨_,rfl⟩;have hem:e∈bc p.ai[k].exp:=by rw[hL,<-he];exact List.getElem_mem hm
   have Wc:iP p e:=Ez (jb hp k hk) hem;obtain⟨b,hb⟩:=yx hp hkk hk hem;have hex:=sQ (W:=⟨fH p l,D⟩) Py zd (top:=200) (Int.le_refl _) _ e (Nat.lt_succ_self _) Wc H2 hW;have QI:=lZ (W:=⟨fH p l,D⟩) Py zd (Int.le_refl _) _ e (Nat.lt_succ_self _) Wc b hb;have lX:=M3 b (by have:=QI.2.1;omega)
   have hnb:IB p l D k m=b:=by
    unfold IB;rw[fS hk,hL,List.getD_eq_getElem?_getD,List.getElem?_eq_getElem hm,he];simp[hb]
   rw[hb]at hex;simp[aj]at hex;simp at lX;have hLe:L[m]?=some e:=by rw[List.getElem?_eq_getElem hm,he]
   have ln:n<H2.next:=q6.lt hW.La.ob;simp;refine AW.seq cc ?_;simp;refine AW.ev cc ?_;simp[hm,he,aj];refine⟨ln,EC.of hex (λv H3 hR=>?_) (λv H3 hR=>by cases hR.2)⟩
   obtain⟨hE,hv⟩:=hR;cases hv;rw[hE];simp[b9];refine EC.aJ lX ?_;simp;refine λhz=>⟨aL q4 q5 hw.none,?_⟩
   unfold ud;rw[if_pos ⟨ha,hin.2 (by omega)⟩,hkk]
   simp only[Int.toNat_natCast,hnb];rfl
end Go.Aft
