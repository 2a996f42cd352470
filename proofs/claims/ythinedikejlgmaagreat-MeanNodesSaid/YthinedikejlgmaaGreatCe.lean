import Derived.Test.YthinedikejlgmaaGreatCd
import Derived.Test.YthinedikejlgmaaGreatA37
set_option linter.all false
set_option maxRecDepth 20000
namespace Go.Aft
open Go.Proofs.Tryz
theorem ref06_Node(p:Prog)(hs:∀s∈p.az++an p,cN s)(l:List Event)(d node:Int):aC prog 31 [lv (ar p),sl (l.map aQ),aH d,aH node] (ud p l d node):=by
 intro H;have cc:=au (p:=bf [4] [] []);refine aG.dG (au (p:=bf [4] [] [])) func31 rfl call31 (by rw[ntmps31];simp) rfl λhf hw=>?_
 have h1:=xX p hs l;simp[ar]at h1;simp[ntmps31,results31,ar]at hf|-;refine AW.seq cc ?_;simp;refine AW.seq cc ?_;simp;refine EC.aJ h1 ?_;have kX:¬(dR p l=true/\sg p d node)->ud p l d node=.dh [sl [],aH 2]:=λq=>if_neg q
 cases ha:dR p l with
 |false=>
  simp;exact λhz=>⟨bI hz,by rw[kX (by rw[ha];simp)];rfl⟩
 |true=>
  by_cases d0:d<0
  ·simp[d0];exact λhz=>⟨bI hz,by rw[kX λq=>by have:=q.2.1;omega];rfl⟩
  by_cases d1:(p.ai.length:Int)<=d
  ·simp[d0,d1];exact λhz=>⟨bI hz,by rw[kX λq=>by have:=q.2.2.1;omega];rfl⟩
  obtain⟨k,rfl⟩:∃k:Nat,d=k:=⟨d.toNat,by omega⟩
  have hk:k<p.ai.length:=by omega
  obtain⟨hp,hl,hi⟩:=iO ha;have Sy:=mU hp;have hkn:=xW p hs hp l hl hi H;obtain⟨L,hL⟩:∃L,bc p.ai[k].exp=L:=⟨_,rfl⟩;have hall:=oI p.ai[k].exp (by have:=(fA hp).len _ (List.getElem_mem hk);omega)
  have hin:sg p k node↔0<=node/\node<L.length:=by
   unfold sg;rw[show((k:Int)).toNat=k from rfl,fS hk,hL]
   omega
  rw[hL]at hall;simp[aj]at hall;simp[ar]at hkn;by_cases n0:node<0
  ·simp[d0,d1,n0];exact λhz=>⟨bI hz,by rw[kX λq=>by have:=hin.1 q.2;omega];rfl⟩
  simp[d0,d1,n0,hk,fm,aj,List.getElem?_eq_getElem hk];refine EC.aJ hall ?_;by_cases n1:(L.length:Int)<=node
  ·simp[n1];exact λhz=>⟨bI hz,by rw[kX λq=>by have:=hin.1 q.2;omega];rfl⟩
  obtain⟨m,rfl⟩:∃m:Nat,node=m:=⟨node.toNat,by omega⟩
  have hm:m<L.length:=by omega
  simp[n1];refine AW.seq cc ?_;simp;refine EC.of hkn (λv H2 hR=>?_) (λv H2 hR=>by
   unfold vh at hR
   split at hR
   ·obtain⟨q,_⟩:=hR;cases q
   ·obtain⟨_,_,_,q,_⟩:=hR;cases q)
  unfold vh at hR;cases hkk:dw p l with
  |none=>
   rw[hkk]at hR;obtain⟨q1,rfl⟩:=hR;cases q1;simp;refine AW.seq cc ?_;simp;exact λhz=>⟨bI hz,by unfold ud;rw[if_pos ⟨ha,hin.2 (by omega)⟩,hkk];rfl⟩
  |some D=>
   rw[hkk]at hR;obtain⟨n,ns,nv,q1,q2,q3,hW,q4,q5,q6⟩:=hR;cases q1;obtain⟨nr,zd⟩:=vV ha hkk;have Py:∀b∈fH p l,bB b:=λb hb=>by
    obtain⟨i,_,rfl⟩:=List.mem_map.1 hb;exact sY hl hi (i:Nat)
   obtain⟨e,he⟩:∃e,L[m]=e:=⟨_,rfl⟩;have hem:e∈bc p.ai[k].exp:=by rw[hL,<-he];exact List.getElem_mem hm
   have Wc:iP p e:=Ez (jb hp k hk) hem;obtain⟨b,hb⟩:=yx hp hkk hk hem;have hex:=uA (W:=⟨fH p l,D⟩) Sy.d6 Py zd (top:=200) (Int.le_refl _) _ e (Nat.lt_succ_self _) Wc H2 hW;have hnb:IB p l D k m=b:=by
    unfold IB;rw[fS hk,hL,List.getD_eq_getElem?_getD,List.getElem?_eq_getElem hm,he];simp[hb]
   rw[hb]at hex;simp[aj]at hex;have ln:n<H2.next:=q6.lt hW.ob;simp;refine AW.seq cc ?_;simp;refine AW.ev cc ?_;simp[hk,fm,aj,List.getElem?_eq_getElem hk];refine EC.aJ hall ?_;simp[hm,he,aj];refine⟨ln,EC.of hex (λv H3 hR=>?_) (λv H3 hR=>by cases hR.2)⟩
   obtain⟨hE,hv⟩:=hR;cases hv;rw[hE];simp[b9];refine λhz=>⟨aL q4 q5 hw.none,?_⟩
   unfold ud;rw[if_pos ⟨ha,hin.2 (by omega)⟩,hkk]
   simp only[Int.toNat_natCast,hnb];rfl
structure Place where
 d:Int
 n:Int
def LD(x:Place):List DV:=[.k (.int .i64 x.d),.k (.int .i64 x.n)]
theorem rd_place{H:Type}{enc:TypeId×Value->H}{w:World}(fuel:Nat):Go.Aft.Rd enc prog w 61 LD (λ_=>True) fuel:=
 Rd.struct underlying61 fuel λf hf=>((gG.cons (n:=2) rfl (Rd.int underlying3 f)<|gG.cons rfl (Rd.int underlying3 f)<|gG.nil)).conv (λx=>⟨x.1,x.2.1⟩) (λ_=>rfl) (λ_ _=>trivial)
theorem Pf(p:Prog)(l:List Event)(d n:Int):∃(b:cg) (e:Int),ud p l d n=.dh [b9 b,aH e]:=by
 unfold ud
 split
 ·split
  ·exact⟨_,_,rfl⟩
  ·exact⟨[],_,rfl⟩
 ·exact⟨[],_,rfl⟩
theorem C5(p:Prog)(hp:WI p)(l:List Event)(x:Place):aC prog 6 [lv (ar p),sl (l.map aQ),lv (LD x)] (.d (.k (.bool true))):=by
 refine aC.body (au (p:=bf [3,5] [] [])) func6 rfl call6 (by rw[ntmps6];simp) rfl λhf H=>?_
 obtain⟨b,e,WA⟩:=Pf p l x.d x.n;have h1:=mean_Node p hp l x.d x.n;have h2:=ref06_Node p hp l x.d x.n;have h3:=nh b b;rw[WA]at h1 h2;simp[ar,b9]at h1 h2;simp at h3;simp[ntmps6,results6,ar,LD];refine EC.aJ h1 ?_;simp;refine EC.aJ h2 ?_;simp;refine EC.aJ h3 ?_;simp;refine EC.aJ fO ?_;simp
end Go.Aft
