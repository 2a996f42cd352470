import Derived.Test.YthinedikejlgmaaGreatA18
import Derived.Test.YthinedikejlgmaaGreatA17
set_option linter.all false
section
set_option maxRecDepth 20000
namespace Go.Aft
open Go.Proofs.Tryz
theorem Iy:∀(l:List ca) (a:Nat) (s:ca),(0<=idx (l.take a) s↔0<=idx l s/\idx l s<a)
 |[],a,s=>by simp[idx]
 |x::l,0,s=>by
  have:=E9 (x::l) s;constructor
  ·intro h;simp[idx]at h
  ·intro h;omega
 |x::l,a+1,s=>by
  have ih:=Iy l a s;have h1:=E9 l s;have h2:=E9 (l.take a) s;rw[List.take_succ_cons,ry,ry];by_cases e:x=s
  ·simp[e]
  ·simp only[e,if_false]
   split<;>split<;>omega
def sC(az aj:List ca)(ahead:Int):LV:=.agg [.d (.sl (az.map rS)),.d (.sl (aj.map rS)),aH ahead]
theorem KG(op en fold:Int)(name:ca)(aD:List bc)(kids:List bw)(az aj:List ca)(ahead:Nat)(ha:ahead<=aj.length)
  (ih:∀k∈kids,∀depth left:Int,0<=depth->left<=1000->aC prog 179 [sC az aj ahead,lv (aQ k),aH depth,aH left] (aH (jV (fF az aj ahead k depth left) left)))
  (depth left:Int) (hd:0<=depth) (hl:left<=1000):aC prog 179 [sC az aj ahead,lv (aQ (.mk op name en fold aD kids)),aH depth,aH left] (aH (jV (fF az aj ahead (.mk op name en fold aD kids) depth left) left)):=by
 have cc:=ar (p:=aY [4,5] [] []);refine aC.vz (ar (p:=aY [4,5] [] [])) func179 rfl call179 (by rw[ntmps179];simp) rfl λhf H=>?_
 have hsh:=Cf op;simp[ntmps179,results179,ai,sC]at hf|-;refine AW.seq cc ?_;simp;refine AW.seq cc ?_;simp;refine EC.aJ hsh ?_;obtain⟨R,hR⟩:∃R,fF az aj ahead (.mk op name en fold aD kids) depth left=R:=⟨_,rfl⟩;rw[hR];have hno:¬(depth<=10/\1<=left/\gI op name en fold aD.length kids.length=true/\di az aj ahead op name=true)->R=none:=λq=>by rw[<-hR,fF,if_neg q]
 cases hs:bF op with
 |none=>
  rw[hno (by rintro⟨_,_,q,_⟩;obtain⟨x,hx,_⟩:=DL q;rw[hs]at hx;cases hx)]
  simp[gA,nV];refine AW.ev cc ?_;simp[jV]
 |some y=>
  have Vu:decide (name≠cF)= !decide (name={data:=#[]}):=by
   rw[decide_not];rfl
  obtain⟨yk,yc,yn,yf,ylo,yhi⟩:=y;have hE:gI op name en fold aD.length kids.length=true↔((aD.length:Int)=yc/\(kids.length:Int)=yk/\(yn= !decide (name={data:=#[]}))/\ylo<=en/\en<=yhi)/\(if yf=true then 1<=fold/\fold<=4 else fold=0):=by
   unfold gI;rw[hs];simp only[Vu,Bool.and_eq_true,decide_eq_true_eq,beq_iff_eq];cases yf
   ·simp only[Bool.false_eq_true,if_false,decide_eq_true_eq];constructor
    ·rintro⟨⟨⟨⟨a,b⟩,c⟩,d,e⟩,f⟩;exact⟨⟨b,a,c,d,e⟩,f⟩
    ·rintro⟨⟨a,b,c,d,e⟩,f⟩;exact⟨⟨⟨⟨b,a⟩,c⟩,d,e⟩,f⟩
   ·simp only[if_true,decide_eq_true_eq];constructor
    ·rintro⟨⟨⟨⟨a,b⟩,c⟩,d,e⟩,f⟩;exact⟨⟨b,a,c,d,e⟩,f⟩
    ·rintro⟨⟨a,b,c,d,e⟩,f⟩;exact⟨⟨⟨⟨b,a⟩,c⟩,d,e⟩,f⟩
  simp[gA,nV];refine AW.seq cc ?_;simp;by_cases hg:depth<=10/\1<=left/\(aD.length:Int)=yc/\(kids.length:Int)=yk/\(yn= !decide (name={data:=#[]}))
  rotate_left
  ·have hz:(bif decide (10<depth)||decide (left<1)||(aD.length:Int) !=yc||(kids.length:Int) !=yk|| !yn== !decide (name={data:=#[]})then LV.d (DV.k (Value.bool true))else LV.any)=.d (.k (.bool true)):=by
    rw[show(decide (10<depth)||decide (left<1)||(aD.length:Int) !=yc||(kids.length:Int) !=yk|| !yn== !decide (name={data:=#[]}))=true from ?_]
    ·rfl
    ·cases hb:(decide (10<depth)||decide (left<1)||(aD.length:Int) !=yc||(kids.length:Int) !=yk|| !yn== !decide (name={data:=#[]}))with
     |true=>rfl
     |false=>
      exfalso;simp at hb;obtain⟨⟨⟨⟨a,b⟩,c⟩,d⟩,e⟩:=hb;refine hg ⟨a,b,c,d,?_⟩
      revert e
      cases yn<;>simp
   refine⟨λq1 q2 q3 q4 q5=>absurd ⟨q1,q2,q3,q4,q5⟩ hg,λ_=>⟨λq1 q2 q3 q4 q5=>absurd ⟨q1,q2,q3,q4,q5⟩ hg,?_⟩⟩
   rw[hz];have hq:R=none:=hno λq=>by
    obtain⟨q1,q2,q3,_⟩:=q;have:=(hE.1 q3).1;exact hg ⟨q1,q2,this.1,this.2.1,this.2.2.1⟩
   simp[hq,jV]
  obtain⟨g1,g2,g3,g4,g5⟩:=hg;refine⟨λ_ _ _ _ _=>⟨⟨⟨⟨⟨g1,g2⟩,g3⟩,g4⟩,g5⟩,EC.aJ (zV _ _ _) ?_⟩,λq=>?_⟩
  rotate_left
  ·exfalso;have:=q g1 g2 g3 g4;rw[g5]at this;simp at this
  subst g5;have b1:decide (10<depth)=false:=by rw[decide_eq_false_iff_not];omega
  have b2:decide (left<1)=false:=by rw[decide_eq_false_iff_not];omega
  have b3:((aD.length:Int) !=yc)=false:=by rw[bne_eq_false_iff_eq];exact g3
  have b4:((kids.length:Int) !=yk)=false:=by rw[bne_eq_false_iff_eq];exact g4
  simp[b1,b2,b3,b4];refine⟨λq=>?_,λr1 r2=>?_⟩
  ·rw[hno λq2=>by have:=(hE.1 q2.2.2.1).1;omega]
   simp[jV]
  obtain⟨yn,hyn⟩:∃yn,(!decide (name={data:=#[]}))=yn:=⟨_,rfl⟩;rw[hyn];refine AW.join (c:=wR (aY [4,5] [] [])) (λ_:Unit=>⟨[(2,aH depth),(3,aH left),(4,.ip [.d (.sl (az.map rS)),.d (.sl (aj.map rS)),aH ahead] 0),(5,.ip ((aQ (.mk op name en fold aD kids)).map .d) 0),(9,.lp 9 0),(10,.d (.k (.bool true)))],[(9,[aH yc,aH yk,.d (.k (.bool yn)),.d (.k (.bool yf)),aH ylo,aH yhi])],H⟩)
   (λ_=>gI op name en fold aD.length kids.length=true) (AW.ev cc ?_) λ_ hok=>?_
  ·cases yf with
   |true=>
    simp;refine EC.aJ (zV _ _ _) ?_;simp;refine⟨λq=>?_,λq1 q2=>?_⟩
    ·rw[hno λq2=>by have:=(hE.1 q2.2.2.1).2;simp at this;omega]
     simp[jV]
    ·exact JN.go () (hE.2 ⟨⟨g3,g4,rfl,r1,r2⟩,by simp;omega⟩) (by simp[ai])
   |false=>
    simp;refine⟨λq=>?_,λq=>?_⟩
    ·rw[hno λq2=>by have:=(hE.1 q2.2.2.1).2;simp at this;omega]
     simp[jV]
    ·exact JN.go () (hE.2 ⟨⟨g3,g4,rfl,r1,r2⟩,by simp;omega⟩) (by simp[ai])
  refine AW.join (c:=wR (aY [4,5] [] [])) (λb:Bool=>⟨[(2,aH depth),(3,aH left),(4,.ip [.d (.sl (az.map rS)),.d (.sl (aj.map rS)),aH ahead] 0),(5,.ip ((aQ (.mk op name en fold aD kids)).map .d) 0),(9,.lp 9 0),(10,.d (.k (.bool b)))],[(9,[aH yc,aH yk,.d (.k (.bool yn)),.d (.k (.bool yf)),aH ylo,aH yhi])],H⟩)
   (λb=>b=di az aj ahead op name) (AW.ev cc ?_) λb hb=>?_
  ·have hop:op=1\/ op=2\/ op=3\/ (op≠1/\op≠2/\op≠3):=by omega
   rcases hop with rfl|rfl|rfl|⟨n1,n2,n3⟩
   ·simp[ai];refine EC.aJ (by simpa using oc az name) ?_
    simp;exact JN.go (decide (0<=idx az name)) (by simp[di]) (by simp[ai])
   ·simp[ai];refine AW.draw cc [(7,.n)] (.q 0<|.q 2<|.q 5<|.q 1<|.q 3<|.q 4<|.q 6<|.q 7<|.q 8<|.done) (by kernel_rfl) ?_
    simp;refine⟨ha,FC.aJ (by simpa[List.map_take]using oc (aj.take ahead) name) ?_⟩
    simp;exact JN.go (decide (0<=idx (aj.take ahead) name)) (by simp[di,Iy]) (by simp[ai])
   ·simp[ai];refine EC.aJ (by simpa using oc aj name) ?_
    simp;exact JN.go (decide (0<=idx aj name)) (by simp[di]) (by simp[ai])
   ·simp[n1,n2,n3,ai];exact JN.go true (by simp[di,n1,n2,n3]) (by simp[ai])
  have hsp:di az aj ahead op name=true->R=match cp (decide (op=12\/ op=13)) aD 1 (left-1)with
   |some l=>eO az aj ahead kids (depth+1) l
   |none=>none:=λq=>by
   rw[<-hR,fF,if_pos ⟨g1,g2,hok,q⟩];cases cp (decide (op=12\/ op=13)) aD 1 (left-1)<;>rfl
  obtain⟨ob,jP⟩:∃ob,decide (op=12\/ op=13)=ob:=⟨_,rfl⟩;have ho:(op==12||op==13)=ob:=by
   rw[<-jP,Bool.eq_iff_iff];simp
  rw[jP]at hsp;have w1:IntKind.wrap .i64 (depth+1)=depth+1:=by rw[wrap64]<;>omega
  refine AW.seq cc ?_;simp[ai];refine AW.join (c:=wR (aY [4,5] [] [])) (λa:Int×Bool=>⟨[(2,aH depth),(3,aH left),(4,.ip [.d (.sl (az.map rS)),.d (.sl (aj.map rS)),aH ahead] 0),(5,.ip ((aQ (.mk op name en fold aD kids)).map .d) 0),(9,.lp 9 0),(10,.d (.k (.bool a.2))),(11,aH a.1)],[(9,[aH yc,aH yk,.d (.k (.bool yn)),.d (.k (.bool yf)),aH ylo,aH yhi])],H⟩)
   (λa=>(a.2=true->1<=a.1/\a.1<=left/\R=eO az aj ahead kids (depth+1) (left-a.1))/\(a.2=false->R=none)) (AW.ev cc ?_) λa hI=>?_
  ·simp[ai];refine AW.aU cc (λa:Nat×Int×Bool=>⟨[(2,aH depth),(3,aH left),(4,.ip [.d (.sl (az.map rS)),.d (.sl (aj.map rS)),aH ahead] 0),(5,.ip ((aQ (.mk op name en fold aD kids)).map .d) 0),(9,.lp 9 0),(10,.d (.k (.bool a.2.2))),(11,aH a.2.1),(12,aH a.1)],[(9,[aH yc,aH yk,.d (.k (.bool yn)),.d (.k (.bool yf)),aH ylo,aH yhi])],H⟩) (λa=>aD.length-a.1)
    (λa=>a.1<=aD.length/\(a.2.2=true->1<=a.2.1/\a.2.1<=left/\R=match cp ob (aD.drop a.1) 1 (left-a.2.1)with
    |some l=>eO az aj ahead kids (depth+1) l
    |none=>none)/\(a.2.2=false->R=none)) (0,1,b) ⟨⟨by simp,λq=>⟨by simp,by simpa using g2,by simpa using hsp (hb▸q)⟩,λq=>hno λq2=>by rw[<-hb]at q2;simp only at q;rw[q]at q2;exact absurd q2.2.2.2 (by simp)⟩,by simp[ai]⟩ ?_
   rintro⟨i,cnt,is⟩ ⟨hi,hI1,hI2⟩;simp only at hi hI1 hI2;cases is with
   |false=>
    simp;exact JN.go (cnt,false) ⟨by simp,hI2⟩ (by simp[ai])
   |true=>
    obtain⟨c1,c2,hI⟩:=hI1 rfl
    clear hI1 hI2
    simp[ai];refine⟨λq=>?_,λq=>?_⟩
    ·have h:i<aD.length:=by omega
     have hd:=List.drop_eq_getElem_cons h;rw[hd,cp]at hI;refine AW.draw cc [(16,.n)] (.q 0<|.q 2<|.q 5<|.q 13<|.q 14<|.q 15<|.q 1<|.q 3<|.q 4<|.q 6<|.q 7<|.q 8<|.q 9<|.q 10<|.q 11<|.q 12<|.q 16<|.q 17<|.done) (by kernel_rfl) ?_
     have w2:IntKind.wrap .i64 (left-cnt)=left-cnt:=by rw[wrap64]<;>omega
     simp[h,List.getElem?_eq_getElem h,aN,w2,ho];refine FC.aJ (by simpa[aN]using zW ob aD[i] 1 (left-cnt) (by omega) (by omega)) ?_
     cases hl:dy ob aD[i] 1 (left-cnt)with
     |none=>
      rw[hl]at hI;simp[jV,aB h hf.2.1.1];exact NX.go (i+1,IntKind.wrap .i64 (cnt+ -1),false) (by simp;omega) ⟨h,by simp,λ_=>hI⟩ (by simp[ai])
     |some l=>
      rw[hl]at hI;have hle:=mB _ _ _ _ hl;have w3:IntKind.wrap .i64 (cnt+(left-cnt-l))=left-l:=by rw[wrap64]<;>omega
      simp[jV,aB h hf.2.1.1,w3];exact NX.go (i+1,left-l,true) (by simp;omega) ⟨h,λ_=>⟨by simp only;omega,by simp only;omega,by simp only[show left-(left-l)=l by omega];exact hI⟩,by simp⟩ (by simp[ai];omega)
    ·have:aD.drop i=[]:=List.drop_eq_nil_of_le (by omega)
     rw[this,cp]at hI;exact JN.go (cnt,true) ⟨λ_=>⟨c1,c2,hI⟩,by simp⟩ (by simp[ai])
  ·obtain⟨cnt0,is0⟩:=a;obtain⟨hJ1,hJ2⟩:=hI;simp only at hJ1 hJ2;refine AW.seq cc ?_;simp[ai];refine AW.aU cc (λa:Nat×Int×Bool=>⟨[(2,aH depth),(3,aH left),(4,.ip [.d (.sl (az.map rS)),.d (.sl (aj.map rS)),aH ahead] 0),(5,.ip ((aQ (.mk op name en fold aD kids)).map .d) 0),(9,.lp 9 0),(10,.d (.k (.bool a.2.2))),(11,aH a.2.1),(14,aH a.1)],[(9,[aH yc,aH yk,.d (.k (.bool yn)),.d (.k (.bool yf)),aH ylo,aH yhi])],H⟩) (λa=>kids.length-a.1)
    (λa=>a.1<=kids.length/\(a.2.2=true->1<=a.2.1/\a.2.1<=left/\R=eO az aj ahead (kids.drop a.1) (depth+1) (left-a.2.1))/\(a.2.2=false->R=none)) (0,cnt0,is0) ⟨⟨by simp,by simpa using hJ1,hJ2⟩,by simp[ai]⟩ ?_
   rintro⟨i,cnt,is⟩ ⟨hi,hI1,hI2⟩;simp only at hi hI1 hI2;cases is with
   |false=>
    simp;rw[hI2 rfl];refine AW.ev cc ?_;simp[jV]
   |true=>
    obtain⟨c1,c2,hI⟩:=hI1 rfl
    clear hI1 hI2
    simp[ai];refine⟨λq=>?_,λq=>?_⟩
    ·have h:i<kids.length:=by omega
     have hd:=List.drop_eq_getElem_cons h;rw[hd,eO]at hI;refine AW.draw cc [(11,.n)] (.q 1<|.q 3<|.q 6<|.q 7<|.q 8<|.q 9<|.q 10<|.q 0<|.q 2<|.q 4<|.q 5<|.q 11<|.q 12<|.done) (by kernel_rfl) ?_
     have w2:IntKind.wrap .i64 (left-cnt)=left-cnt:=by rw[wrap64]<;>omega
     simp[h,List.getElem?_eq_getElem h,ai,w1,w2];refine FC.aJ (by simpa[ai,sC]using ih kids[i] (List.getElem_mem h) (depth+1) (left-cnt) (by omega) (by omega)) ?_
     cases hl:fF az aj ahead kids[i] (depth+1) (left-cnt)with
     |none=>
      rw[hl]at hI;simp[jV,aB h hf.2.2.1];exact NX.go (i+1,IntKind.wrap .i64 (cnt+ -1),false) (by simp;omega) ⟨h,by simp,λ_=>hI⟩ (by simp[ai])
     |some l=>
      rw[hl]at hI;have hle:=lF _ _ _ _ hl;have w3:IntKind.wrap .i64 (cnt+(left-cnt-l))=left-l:=by rw[wrap64]<;>omega
      simp[jV,aB h hf.2.2.1,w3];exact NX.go (i+1,left-l,true) (by simp;omega) ⟨h,λ_=>⟨by simp only;omega,by simp only;omega,by simp only[show left-(left-l)=l by omega];exact hI⟩,by simp⟩ (by simp[ai];omega)
    ·have:kids.drop i=[]:=List.drop_eq_nil_of_le (by omega)
     rw[this,eO]at hI;rw[hI];refine AW.ev cc ?_;simp[jV]
     try omega
theorem CU(az aj:List ca)(ahead:Nat)(ha:ahead<=aj.length):∀(e:bw) (depth left:Int),0<=depth->left<=1000->aC prog 179 [sC az aj ahead,lv (aQ e),aH depth,aH left] (aH (jV (fF az aj ahead e depth left) left))
 |.mk op name en fold aD kids,depth,left,hd,hl=>KG op en fold name aD kids az aj ahead ha (λk hk depth left hd hl=>CU az aj ahead ha k depth left hd hl) depth left hd hl
structure cm(e:TypeId)(sz:Nat)(H0:GH)(x:LV)(rows:List (List DV))(H:GH):Prop where
 is:rows=[]/\x=.d (.k (.slice none 0 0))\/ ∃n,H0.next<=n/\n<H.next/\x=.kQ n rows/\H.obj n=some (.arr e sz rows.length)
 nx:H0.next<=H.next
 ob:∀m,m<H0.next->H.obj m=H0.obj m
theorem cm.nil{e:TypeId}{sz:Nat}{H:GH}:cm e sz H (.d (.k (.slice none 0 0))) [] H:=⟨.inl ⟨rfl,rfl⟩,Nat.le_refl _,λ_ _=>rfl⟩
theorem cm.plain{e:TypeId}{sz:Nat}{H0 H:GH}{x:LV}{rows:List (List DV)}(h:cm e sz H0 x rows H):Plain x:=by
 rcases h.is with⟨_,rfl⟩|⟨n,_,_,rfl,_⟩<;>exact⟨rfl,trivial,rfl,rfl⟩
theorem cm.only{e:TypeId}{sz:Nat}{H0 H:GH}{x:LV}{rows:List (List DV)}(h:cm e sz H0 x rows H){k:List Nat}:x.only k:=by
 rcases h.is with⟨_,rfl⟩|⟨n,_,_,rfl,_⟩<;>simp[LV.only]
theorem cm.fz{e:TypeId}{sz:Nat}{H0 H:GH}{x:LV}{rows:List (List DV)}(h:cm e sz H0 x rows H):Go.Aft.fz x=.d (.sl rows):=by
 rcases h.is with⟨rfl,rfl⟩|⟨n,_,_,rfl,_⟩<;>simp[Go.Aft.fz]
def S.fzT(s:S)(t:Nat):S:={s with env:=ew s.env t (Go.Aft.fz (s.env t))}
theorem AW.fzT{P:Program}{rd:RD}{x:Code}{s:S}{Q:QT}(t:Nat)(h:@AW P rd ⟨x⟩ (s.fzT t) Q):@AW P rd ⟨x⟩ s Q:=by
 refine λE a w hs=>h E a w ?_
 obtain⟨h2,G,lm,h1,hM,hx,aK,hn⟩:=hs;refine⟨h2,G,lm,h1,hM,hx,λu=>?_,hn⟩
 simp only[S.fzT];by_cases e:u=t
 ·subst e;rw[eG];exact Td _ _ (aK u)
 ·rw[aW _ _ e];exact aK u
attribute [simp] S.fzT
theorem cm.mono{e:TypeId}{sz:Nat}{H0 H1 H2:GH}{x:LV}{rows:List (List DV)}(h:cm e sz H0 x rows H1)(hn:H1.next<=H2.next)(ho:∀m,m<H1.next->H2.obj m=H1.obj m):cm e sz H0 x rows H2:=by
 refine⟨?_,Nat.le_trans h.nx hn,λm hm=>by have:=h.nx;rw[ho m (by omega)];exact h.ob m hm⟩
 rcases h.is with q|⟨n,q1,q2,q3,q4⟩
 ·exact .inl q
 ·exact .inr ⟨n,q1,by omega,q3,by rw[ho n q2];exact q4⟩
theorem Gy{ty:TypeId->Option aS}{t:TypeId}(q:slK ty t=true):∃e' sz' z' bt',ty t=some ⟨.sl e',sz',z',bt'⟩:=by
 unfold slK at q
 split at q
 ·exact⟨_,_,_,_,‹_›⟩
 ·cases q
theorem eE.appY{c:Cx}{s:S}{K:KT}{dst:Option Nat}{T T' e:TypeId}{d ed:aS}{a b:Operand}{H0:GH}{rows ys:List (List DV)}(hT:c.ty T=some d)(hTT:T=T'\/ slK c.ty T'=true)(hd:d.k=.sl e)(he:c.ty e=some ed)(hsz:ed.sz≠0)
  {x:LV} (ha:s.get a=x) (aA:cm e ed.sz H0 x rows s.H) (hb:rowsOf (s.arg b)=some ys) (M7:s.aI b) (hr:∀r∈rows,r.length=ed.sz) (hy:∀r∈ys,r.length=ed.sz)
  (hl:(rows.length+ys.length)*ed.bt<=140737488355328/\rows.length+ys.length<=140737488355328) (hv:∀t,dst=some t->c.bJ t≠ .vec)
  (hk:∀x' H',cm e ed.sz H0 x' (rows++ys) H'->s.H.next<=H'.next->(∀m,m<s.H.next->(∀r,x≠ .kQ m r)->H'.obj m=s.H.obj m)->@AP K (({s with H:=H'}:S).put dst x')):@eE c #[a,b] #[T,T'] s dst K:=by
 obtain⟨k,sz,z,bt⟩:=d;simp only at hd;subst hd;have hap:s.aI a:=by
  unfold S.aI;rw[ha];rcases aA.is with⟨_,rfl⟩|⟨n,_,_,rfl,_⟩<;>trivial
 have rA:s.arg a=x:=by
  unfold S.arg;rw[ha];exact aA.plain.un
 rcases id aA.is with⟨rfl,e1⟩|⟨n,q1,q2,e1,e2⟩
 ·rw[e1]at rA;have uj:eD c.ty c.bJ s dst .append [T,T'] [a,b]=none:=by
   by_cases e:T=T'
   ·subst e;simp only[eD,hT,he,rA,if_true,Option.bind_some,if_neg hsz];cases dst with
    |none=>rfl
    |some t=>simp[hv t rfl]
   ·obtain⟨e',sz',z',bt',hT'⟩:=Gy (hTT.resolve_left e);simp only[eD,if_neg e,hT,hT',rA]
  refine eE.ev ?_;simp only[bS,uj,Option.none_or,rQ,hT,he,rA,hb,if_pos hTT,Option.bind_some,if_neg hsz,nH];simp only[List.length_nil,Nat.zero_add]at hl;refine⟨⟨hap,M7,hy,hl⟩,?_⟩;refine hk (.kQ s.H.next ([]++ys)) (s.H.add (.arr e ed.sz ys.length)) ⟨.inr ⟨s.H.next,aA.nx,by rw[GH.aq];omega,rfl,by rw[GH.au,if_pos rfl];simp⟩,by rw[GH.aq];have:=aA.nx;omega,λm hm=>?_⟩ (by rw[GH.aq];omega) (λm hm _=>by rw[GH.au,if_neg (by omega)])
  have:=aA.nx;rw[GH.au,if_neg (by omega)];exact aA.ob m hm
 ·rw[e1]at rA;have uj:eD c.ty c.bJ s dst .append [T,T'] [a,b]=none:=by
   by_cases e:T=T'
   ·subst e;simp only[eD,hT,he,rA,if_true,Option.bind_some,if_neg hsz]
   ·obtain⟨e',sz',z',bt',hT'⟩:=Gy (hTT.resolve_left e);simp only[eD,if_neg e,hT,hT',rA]
  refine eE.ev ?_;simp only[bS,uj,Option.none_or,rQ,hT,he,rA,e2,hb,if_pos hTT,Option.bind_some,if_neg hsz,and_self,nH];refine⟨⟨hap,M7,trivial,hr,hy,hl⟩,?_⟩;refine hk (.kQ n (rows++ys)) (s.H.set n (.arr e ed.sz (rows.length+ys.length))) ⟨.inr ⟨n,q1,q2,rfl,by rw[GH.ay,if_pos rfl];simp⟩,by rw[GH.aL];exact aA.nx,λm hm=>by rw[GH.ay,if_neg (by omega)];exact aA.ob m hm⟩ (by rw[GH.aL];exact Nat.le_refl _) (λm hm hne=>?_)
  rw[GH.ay,if_neg];intro e;subst e;exact hne rows e1
theorem eE.dJ{c:Cx}{s:S}{K:KT}{dst:Option Nat}{T e:TypeId}{d ed:aS}{a b:Operand}{H0:GH}{rows ys:List (List DV)}(hT:c.ty T=some d)(hd:d.k=.sl e)(he:c.ty e=some ed)(hsz:ed.sz≠0)
  {x:LV} (ha:s.get a=x) (aA:cm e ed.sz H0 x rows s.H) (hb:rowsOf (s.arg b)=some ys) (M7:s.aI b) (hr:∀r∈rows,r.length=ed.sz) (hy:∀r∈ys,r.length=ed.sz)
  (hl:(rows.length+ys.length)*ed.bt<=140737488355328/\rows.length+ys.length<=140737488355328) (hv:∀t,dst=some t->c.bJ t≠ .vec)
  (hk:∀x' H',cm e ed.sz H0 x' (rows++ys) H'->s.H.next<=H'.next->(∀m,m<s.H.next->(∀r,x≠ .kQ m r)->H'.obj m=s.H.obj m)->@AP K (({s with H:=H'}:S).put dst x')):@eE c #[a,b] #[T,T] s dst K:=
 eE.appY hT (.inl rfl) hd he hsz ha aA hb M7 hr hy hl hv hk
theorem nQ:∀a b:List bw,bu (a++b)=bu a++bu b
 |[],b=>by simp[bu]
 |x::a,b=>by simp[bu,nQ a b]
theorem SV:∀(e:bw) (k:bw),k∈e.kids->(bn k).length<=(bn e).length
 |.mk op name n fold aD kids,k,hk=>by
  have:∀l:List bw,k∈l->(bn k).length<=(bu l).length:=by
   intro l
   induction l with
   |nil=>intro h;cases h
   |cons x l ih=>
    intro h;rw[bu,List.length_append];rcases List.mem_cons.1 h with rfl|h
    ·omega
    ·have:=ih h;omega
  have:=this kids hk;simp only[bn,List.length_cons];omega
theorem KM(op n fold:Int)(name:ca)(aD:List bc)(kids:List bw)(hn:(bn (.mk op name n fold aD kids)).length<=1000000)
  (ih:∀k∈kids,aC prog 33 [lv (aQ k)] (sl ((bn k).map aQ))):aC prog 33 [lv (aQ (.mk op name n fold aD kids))] (sl ((bn (.mk op name n fold aD kids)).map aQ)):=by
 have cc:=ar (p:=aY [1] [] [6]);refine aC.body (ar (p:=aY [1] [] [6])) func33 rfl call33 (by rw[ntmps33];simp) rfl λhf H=>?_
 have AX:List.range' 0 1=[0]:=rfl;simp[ntmps33,results33,ai,AX]at hf|-;refine AW.aU cc (λa:Nat×LV×GH=>⟨[(1,.ip ((aQ (.mk op name n fold aD kids)).map .d) 0),(3,a.2.1),(4,aH a.1)],[],a.2.2⟩) (λa=>kids.length-a.1) (λa=>a.1<=kids.length/\B3 68 6 H a.2.1 ((.mk op name n fold aD kids::bu (kids.take a.1)).map aQ) a.2.2)
  (0,.kQ H.next [aQ (.mk op name n fold aD kids)],H.add (.arr 68 6 1)) ⟨⟨by simp,by simpa[bu]using B3.first (by simp)⟩,by simp[ai,LV.only]⟩ ?_
 rintro⟨i,x,H'⟩ ⟨hi,aA⟩;simp only at hi aA;simp[ai];refine⟨λh=>?_,λh=>?_⟩
 ·have ihk:=ih kids[i] (List.getElem_mem h);simp[ai]at ihk;simp[h,List.getElem?_eq_getElem h,ai,aA.plain.all];refine EC.aJ ihk ?_;simp[aA.plain.all];have hall:bu (kids.take (i+1))=bu (kids.take i)++bn kids[i]:=by
   rw[<-aR h,nQ];simp[bu]
  have hlen:(bu (kids.take (i+1))).length<=(bu kids).length:=by
   have:bu kids=bu (kids.take (i+1))++bu (kids.drop (i+1)):=by rw[<-nQ,List.take_append_drop]
   rw[this,List.length_append];omega
  rw[hall,List.length_append]at hlen;simp only[bn,List.length_cons]at hn;refine eE.BE aQ (.mk op name n fold aD kids::bu (kids.take i)) (bn kids[i]) CD rfl CC (by simp) Hh (x:=x) (by simp) aA (by simp[rowsOf]) (by simp) (by simp;omega) (by simp) λx' H2 aG=>?_
  rw[List.cons_append,<-hall]at aG;simp[aG.plain.all,aG.only,aB h hf.2.1];exact NX.go (i+1,x',H2) (by simp;omega) ⟨h,aG⟩ (by simp[aG.only,aG.plain.all,ai])
 ·have e:i=kids.length:=by omega
  subst e;rw[List.take_length]at aA;have hz:=aA.fz;simp[aA.plain.all,hz.1,bn];exact hz.2
theorem vT:∀(e:bw),(bn e).length<=1000000->aC prog 33 [lv (aQ e)] (sl ((bn e).map aQ))
 |.mk op name n fold aD kids,h=>KM op n fold name aD kids h λk hk=>vT k (Nat.le_trans (SV (.mk op name n fold aD kids) k hk) h)
theorem G7(e:bw)(hn:(bn e).length<=1000000):aC prog 129 [lv (aQ e)] (.d (.k (.bool ((bn e).any cD)))):=by
 have cc:=ar (p:=aY [1] [] []);refine aC.body (ar (p:=aY [1] [] [])) func129 rfl call129 (by rw[ntmps129];simp) rfl λhf H=>?_
 have ha:=vT e hn;simp[ai]at ha;simp[ntmps129,results129,ai];refine EC.aJ ha ?_;simp;generalize hl:bn e=l at hn;refine AW.aU cc (λi:Nat=>⟨[(3,.d (.sl (l.map aQ))),(4,aH i)],[],H⟩) (λi=>l.length-i) (λi=>i<=l.length/\∀j (h:j<l.length),j<i->cD l[j]=false) 0 (by simp) λi hi=>?_
 simp;refine⟨λh=>?_,λh=>?_⟩
 ·simp[h,List.getElem?_eq_getElem h,ai];refine⟨λq=>⟨q,λq2=>⟨q,q2⟩⟩,λq=>⟨l[i],List.getElem_mem h,by simpa[cD]using q⟩,λq1 q2=>?_⟩
  refine NX.go (i+1) (by omega) ⟨h,λj hj hji=>?_⟩ (by simp[aB (n:=1000000) (show i<1000000 by omega)])
  by_cases z:j=i
  ·subst z;simp[cD];exact⟨q1,q2⟩
  ·exact hi.2 j hj (by omega)
 ·intro x hx;obtain⟨j,hj,rfl⟩:=List.mem_iff_getElem.1 hx;exact hi.2 j hj (by omega)
def AN(e:bw):Bool:=decide (e.op=2\/ e.op=3)
def jE(names:List ca)(l:List bw):List Int:=(l.filter AN).map λe=>idx names e.name
def rL(l:List Int):List DV:=[.sl (l.map rI)]
@[simp] theorem rL_len (l:List Int):(rL l).length=1:=rfl
theorem xm(p:Prog)(hl:p.aj.length<=6)(hn:∀d∈p.aj,(bn d.exp).length<=1000):aC prog 180 [lv (ax p)] (sl ((p.aj.map λd=>jE (an p) (bn d.exp)).map rL)):=by
 have cc:=ar (p:=aY [1] [] []);refine aC.body (ar (p:=aY [1] [] [])) func180 rfl call180 (by rw[ntmps180];simp) rfl λhf H=>?_
 have hd:=iX p hl;simp[ax]at hd;simp[ntmps180,results180,ax]at hf|-;refine EC.aJ hd ?_;simp;refine AW.Dg cc (λa:Nat×LV×GH=>⟨[(1,.ip ((ax p).map .d) 0),(3,a.2.1),(4,.d (.sl ((an p).map rS))),(5,aH a.1)],[],a.2.2⟩) (λa=>p.aj.length-a.1)
  (λa=>a.1<=p.aj.length/\cm 94 1 H a.2.1 (((p.aj.take a.1).map λd=>jE (an p) (bn d.exp)).map rL) a.2.2) (0,.d (.k (.slice none 0 0)),H) ⟨⟨by simp,.nil⟩,by simp[ax]⟩ ?_
 rintro⟨i,x,H1⟩ ⟨hi,aA⟩;simp only at hi aA;refine AW.seq cc ?_;simp[ax];refine⟨λh=>?_,λh=>?_⟩
 ·have hall:=vT p.aj[i].exp (by have:=hn _ (List.getElem_mem h);omega)
  simp[ai]at hall;refine AW.seqW (c:=wR (aY [1] [] [])) ?_;refine AW.block (c:=wR (aY [1] [] [])) ?_;refine AW.seq cc ?_;simp;refine AW.seq cc ?_;simp[h,List.getElem?_eq_getElem h,ez,ai];refine EC.aJ hall ?_;have FY:=hn _ (List.getElem_mem h);simp;generalize hE:bn p.aj[i].exp=E at FY;refine AW.seq cc ?_;simp;refine AW.aU cc (λa:Nat×LV×GH=>⟨[(1,.ip ((ax p).map .d) 0),(3,x),(4,.d (.sl ((an p).map rS))),(5,aH i),(6,a.2.1),(7,.d (.sl (E.map aQ))),(8,aH a.1)],[],a.2.2⟩) (λa=>E.length-a.1)
   (λa=>a.1<=E.length/\cm 3 1 H1 a.2.1 ((jE (an p) (E.take a.1)).map rI) a.2.2) (0,.d (.k (.slice none 0 0)),H1) ⟨⟨by simp,by simpa[jE]using cm.nil⟩,by simp[ax,aA.only]⟩ ?_
  rintro⟨k,y,H2⟩ ⟨hk,hin⟩;simp only at hk hin;simp;refine⟨λjQ=>?_,λjQ=>?_⟩
  ·have fU:jE (an p) (E.take (k+1))=jE (an p) (E.take k)++(if AN E[k]then[idx (an p) E[k].name]else[]):=by
    rw[<-aR jQ,jE,List.filter_append,List.map_append];simp only[jE,List.filter_cons,List.filter_nil]
    split<;>rfl
   have hlr:(jE (an p) (E.take (k+1))).length<=1000:=by
    have h1:(jE (an p) (E.take (k+1))).length<=(E.take (k+1)).length:=by rw[jE,List.length_map];exact List.length_filter_le _ _
    have h2:(E.take (k+1)).length<=E.length:=by simp;omega
    omega
   have hixx:=kj (an p) E[k].name;simp at hixx;simp[jQ,List.getElem?_eq_getElem jQ,ai,hin.plain.all];refine⟨λhr=>?_,λAX MV=>?_⟩
   ·simp only[AN,hr,decide_true,if_true]at fU;refine EC.aJ hixx ?_;simp;refine eE.dJ lY rfl Gc (by simp) (x:=y) (by simp) hin (by simp[rowsOf];rfl) (by simp) (by simp) (by simp) (by rw[fU]at hlr;simp at hlr|-;omega) (by simp) λx' H3 h3 _ _=>?_
    simp[h3.plain.all,aB (n:=1000000) (show k<1000000 by omega)]
    refine NX.go (k+1,x',H3) (by simp;omega) ⟨jQ,by rw[fU,List.map_append];exact h3⟩ (by simp[ax,aA.only,h3.only])
   ·simp only[AN,not_or.2 ⟨AX,MV⟩,decide_false,Bool.false_eq_true,if_false,List.append_nil]at fU;simp[aB (n:=1000000) (show k<1000000 by omega)]
    refine NX.go (k+1,y,H2) (by simp;omega) ⟨jQ,by rw[fU];exact hin⟩ (by simp[ax,aA.only,hin.only])
  ·have e:k=E.length:=by omega
   subst e;rw[List.take_length]at hin;refine AW.fzT 6 (AW.ev cc ?_);simp[aA.plain.all,hin.fz];refine eE.dJ zi rfl lY (by simp) (x:=x) (by simp) (aA.mono hin.nx hin.ob) (by simp[rowsOf];rfl) (by simp) (λr hr=>by obtain⟨_,_,rfl⟩:=List.mem_map.1 hr;rfl) (by simp) (by simp;omega) (by simp) λx' H3 h3 _ _=>?_
   simp[h3.plain.all,aB (n:=1000000) (show i<1000000 by omega)]
   refine AW.ev cc ?_;simp[h3.plain.all,aB (n:=1000000) (show i<1000000 by omega)]
   refine NX.go (i+1,x',H3) (by simp;omega) ⟨h,?_⟩ (by simp[ax,h3.only])
   rw[<-aR h,List.map_append,List.map_append];simpa[hE,rL]using h3
 ·have e:i=p.aj.length:=by omega
  subst e;rw[List.take_length,List.map_map]at aA;simp[aA.plain.all,aA.fz];exact⟨aA.nx,aA.ob⟩
theorem aF.OW{P:Program}{f:FuncId}{args:List LV}{H:GH}{R:CE->GH->Prop}(h:aF P f (xV args) H R):aF P f args H R:=⟨h.1,λG w vs h1 h2 h3=>h.2 G w vs h1 h2 (w8 _ _ h3)⟩
theorem aC.OW{P:Program}{f:FuncId}{args:List LV}{v:LV}(h:aC P f (xV args) v):aC P f args v:=λH=>(h H).OW
theorem cm.nb{e:TypeId}{sz:Nat}{H0 H:GH}{x:LV}{rows:List (List DV)}(h:cm e sz H0 x rows H):x.nb H.next:=by
 rcases h.is with⟨rfl,rfl⟩|⟨n,_,h2,rfl,_⟩
 ·simp[LV.nb]
 ·exact h2
open Classical in
theorem GY(p:Prog)(lG:∀s∈p.az++an p,cN s):aC prog 127 [lv (ax p)] (aH (jV (fh p) 60)):=by
 have cc:=ar (p:=aY [1] [] []);refine aC.vz (ar (p:=aY [1] [] [])) func127 rfl call127 (by rw[ntmps127];simp) rfl λhf H=>?_
 simp[ntmps127,results127,ax]at hf|-;refine AW.seq cc ?_;simp;refine AW.seq cc ?_;simp;refine⟨λq=>?_,λq1 q2 q3=>?_⟩
 ·have:fh p=none:=by unfold fh;rw[if_neg];rintro⟨_,_,_,_⟩;omega
  rw[this];rfl
 have hdn:=iX p (by omega)
 simp[ax]at hdn;have hdf:=yo (p.az++an p) lG;have FY:(an p).length=p.aj.length:=by simp[an]
 refine AW.seq cc ?_;refine AW.draw cc [(3,.n)] (.q 0<|.q 1<|.q 2<|.q 3<|.q 4<|.f<|.one 5<|.f<|.one 6<|.done) (by kernel_rfl) ?_
 simp;refine FC.aJ hdn ?_;simp;have hno:¬oI (p.az++an p)->fh p=none:=λq=>by unfold fh;rw[if_neg];rintro⟨_,_,_,q2⟩;exact q q2
 refine AW.join (c:=wR (aY [1] [] [])) (λH1:GH=>⟨[(1,.ip ((ax p).map .d) 0),(3,.lp 3 0)],[(3,[.d (.sl (p.az.map rS)),.d (.sl ((an p).map rS)),aH 0])],H1⟩)
  (λH1=>oI (p.az++an p)/\H.next<=H1.next/\∀m,m<H.next->H1.obj m=H.obj m) (AW.ev cc ?_) λH1 h1=>?_
 ·simp;refine AW.draw cc [(6,.n)] (.q 0<|.q 3<|.f (.cons 1 (.f (.cons 2 (.q 4<|.f<|.one 5<|.q 6<|.q 7<|.done) (.cons 4 (.f<|.one 2<|.f<|.one 5<|.q 6<|.q 7<|.done) (.nil)))) (.cons 4 (.f<|.one 1<|.f<|.one 2<|.f<|.one 5<|.q 6<|.q 7<|.done) (.nil)))) (by kernel_rfl) ?_
  simp;refine⟨⟨?_,?_⟩,?_⟩
  all_goals
   refine eE.dJ F9 rfl P6 (by simp) (by simp) (.nil) (by simp[rowsOf];rfl) (by simp) (by simp) (λr hr=>by obtain⟨_,_,rfl⟩:=List.mem_map.1 hr;rfl) (by simp;omega) (by simp) λx' H3 h3 _ _=>?_
   simp[h3.plain.all];refine eE.dJ F9 rfl P6 (by simp) (by simp) h3 (by simp[rowsOf];rfl) (by simp) (by simp) (λr hr=>by obtain⟨_,_,rfl⟩:=List.mem_map.1 hr;rfl) (by simp;omega) (by simp) λx2 H4 h4 _ _=>?_
   simp[h4.plain.all];refine⟨h4.nb,FC.aJ (aC.OW (v:=.d (.k (.bool (decide (oI (p.az++an p)))))) (by simp only[xV,h4.fz,List.nil_append,<-List.map_append];exact hdf)) ?_⟩
   simp;exact⟨λq=>⟨by rw[hno q];rfl,h4.nx,h4.ob⟩,λq=>JN.go H4 ⟨q,h4.nx,h4.ob⟩ (by simp[ax])⟩
 ·obtain⟨RI,sQ,jP⟩:=h1;have hsp:fh p=iP p.az (an p) p.aj 0 60:=by
   unfold fh;rw[if_pos];exact⟨by omega,by omega,by omega,RI⟩
  rw[hsp]
  clear hno hdf hsp
  refine AW.ev cc ?_;simp;refine AW.aU cc (λa:Nat×Int=>⟨[(1,.ip ((ax p).map .d) 0),(3,.lp 3 0),(4,aH (60-a.2)),(5,aH a.1)],[(3,[.d (.sl (p.az.map rS)),.d (.sl ((an p).map rS)),aH (a.1-1:Nat)])],H1⟩) (λa=>p.aj.length-a.1)
   (λa=>a.1<=p.aj.length/\0<=a.2/\a.2<=60/\iP p.az (an p) p.aj 0 60=iP p.az (an p) (p.aj.drop a.1) a.1 a.2) (0,60) ⟨⟨by simp,by simp,by simp,by simp⟩,by simp[ax]⟩ ?_
  rintro⟨i,left⟩ ⟨hi,hl0,Dr,hI⟩;simp only at hi hl0 Dr hI;simp[ax];refine⟨λh=>?_,λh=>?_⟩
  ·have hd:=List.drop_eq_getElem_cons h;rw[hd,iP]at hI;have w2:IntKind.wrap .i64 (60-(60-left))=left:=by rw[wrap64]<;>omega
   refine AW.draw cc [(9,.n)] (.q 1<|.q 3<|.q 7<|.q 8<|.q 0<|.q 2<|.q 4<|.q 5<|.q 6<|.q 9<|.q 10<|.done) (by kernel_rfl) ?_
   simp[h,List.getElem?_eq_getElem h,ez,ai,w2];have hx:=CU p.az (an p) i (by omega) p.aj[i].exp 1 left (by omega) (by omega)
   simp[sC,ai]at hx;refine FC.aJ hx ?_;cases hl:fF p.az (an p) i p.aj[i].exp 1 left with
   |none=>
    rw[hl]at hI;simp[jV];rw[hI];exact⟨rfl,sQ,jP⟩
   |some l=>
    rw[hl]at hI;have hle:=lF _ _ _ _ hl;have w3:IntKind.wrap .i64 (60-left+(left-l))=60-l:=by rw[wrap64]<;>omega
    simp[jV,w3,aB (n:=1000000) (show i<1000000 by omega)]
    refine⟨λq=>by omega,λq=>NX.go (i+1,l) (by simp;omega) ⟨h,hle.1,by simp only;omega,by simpa using hI⟩ (by simp[ax])⟩
  ·have:p.aj.drop i=[]:=List.drop_eq_nil_of_le (by omega)
   rw[this,iP]at hI;rw[hI];simp[jV];exact⟨sQ,jP⟩
theorem cm.set{e:TypeId}{sz:Nat}{H0 H:GH}{x:LV}{rows:List (List DV)}(h:cm e sz H0 x rows H){k:Nat}(hk:k<H0.next)(o:GO):cm e sz (H0.set k o) x rows (H.set k o):=by
 refine⟨?_,h.nx,λm hm=>?_⟩
 ·rcases h.is with q|⟨n,q1,q2,q3,q4⟩
  ·exact .inl q
  ·exact .inr ⟨n,q1,q2,q3,by rw[GH.ay,if_neg (by omega)];exact q4⟩
 ·rw[GH.ay,GH.ay]
  split
  ·rfl
  ·exact h.ob m hm
theorem Q5:∀{l:List Nat} {x:Nat},x∈l->x<=l.sum
 |y::l,x,h=>by
  rcases List.mem_cons.1 h with rfl|h
  ·simp
  ·have:=Q5 h;simp;omega
def rT(l:List Nat):List DV:=[.sl (l.map λk=>rI (k:Nat))]
def rB(b:Bool):List DV:=[.k (.bool b)]
def rR(l:List Bool):List DV:=[.sl (l.map rB)]
open Classical in
noncomputable def oq (to:List (List Nat)) (i:Nat):List Bool:=(List.range to.length).map λj=>decide (Path (λa b=>b∈to.getD a []) i j)
@[simp] theorem Oe (to:List (List Nat)) (i:Nat):(oq to i).length=to.length:=by simp [oq]
noncomputable def px (to:List (List Nat)):List (List Bool):=(List.range to.length).map (oq to)
def bC(l:List Bool):List LV:=l.map λb=>.d (.k (.bool b))
@[simp] theorem bC_len (l:List Bool):(bC l).length=l.length:=by simp [bC]
theorem R8(l:List Bool):bG (l.map rB)=bC l:=by
 induction l with
 |nil=>rfl
 |cons b l ih=>
  simp[bG,bC,rB]at ih|-;exact ih
theorem rB_len(l:List Bool):∀r∈l.map rB,r.length=1:=λr hr=>by obtain⟨_,_,rfl⟩:=List.mem_map.1 hr;rfl
theorem CF(n g sz:Nat)(rows:List (List DV)):∀xs:List LV,iM n g sz rows xs=xs.map (LV.cL n g sz rows)
 |[]=>rfl
 |x::xs=>by rw[iM,CF n g sz rows xs];rfl
open Classical in
noncomputable def fD (to:List (List Nat)) (n i:Nat):List LV:=(List.range n).map λk=>if k<i then .d (.sl ((oq to k).map rB))else .d (.k (.slice none 0 0))
@[simp] theorem cellsR_len (to:List (List Nat)) (n i:Nat):(fD to n i).length=n:=by simp [fD]
theorem OY{α:Type}(f:α->DV)(l:List α):bG (l.map λa=>[f a])=l.map λa=>.d (f a):=by
 induction l with
 |nil=>rfl
 |cons b l ih=>
  simp[bG]at ih|-;exact ih
theorem Mc{to:List (List Nat)}{n i n1:Nat}(hn:to.length=n)(h:i<n):(List.take i (fD to n i)++LV.vs n1 0 1 0 n::List.drop (i+1) (fD to n i)).map (LV.cL n1 0 1 ((oq to i).map rB))=fD to n (i+1):=by
 have hm:min i n=i:=by omega
 have hg:∀a j (hj:j<(fD to n a).length),(fD to n a)[j]=if j<a then .d (.sl ((oq to j).map rB))else .d (.k (.slice none 0 0)):=λa j hj=>by simp[fD]
 refine List.ext_getElem (by simp;omega) λj h1 h2=>?_
 rw[List.getElem_map,hg,List.getElem_append]
 split
 ·rename_i q;have q:j<i:=by simpa[hm]using q
  rw[List.getElem_take,hg,if_pos q,if_pos (by omega)];simp
 ·rename_i q;simp[hm]at q;rw[List.getElem_cons]
  split
  ·rename_i q2;simp[hm]at q2;have:j=i:=by omega
   subst this;rw[if_pos (by omega)]
   simp[hn];exact List.take_of_length_le (by simp[hn])
  ·rename_i q2;simp[hm]at q2;rw[List.getElem_drop,hg,if_neg (by simp[hm];omega),if_neg (by omega)]
   simp
open Classical in
theorem tf(p:Prog)(to:List (List Nat))(hn:to.length=p.aj.length)(h6:p.aj.length<=6)(hb:∀l∈to,∀x∈l,x<to.length)(hsz:(to.map List.length).sum<=10000)
  (h208:aC prog 180 [lv (ax p)] (sl (to.map rT))):aC prog 130 [lv (ax p)] (sl ((px to).map rR)):=by
 have cc:=ar (p:=aY [1] [] [15,24]);intro H;refine aF.dV (ar (p:=aY [1] [] [15,24])) func130 rfl call130 (by rw[ntmps130];simp) rfl λhf hw=>?_
 simp[ax]at h208;simp[ntmps130,results130,ax]at hf|-;refine AW.seq cc ?_;simp;refine AW.seq cc ?_;simp;refine AW.seq cc ?_;simp;refine EC.aJ h208 ?_;simp;refine AW.seq cc ?_;simp;refine⟨by omega,?_⟩
 obtain⟨n,Vu⟩:∃n,p.aj.length=n:=⟨_,rfl⟩;rw[Vu]at hn h6|-;have hrep:jx n [LV.d (DV.k (Value.slice none 0 0))]=fD to n 0:=by
  simp only[jx,fD,Nat.not_lt_zero,if_false,List.map_const',List.length_range];simp
 rw[hrep];have hlt:∀m,m<H.next->(H.add (GO.vec 178 0 1 (fD to n 0) true)).obj m=H.obj m:=λm hm=>by rw[GH.au,if_neg (by omega)]
 refine AW.seq cc ?_;simp;refine AW.Dg cc (λa:Nat×GH=>⟨[(3,aH n),(4,.d (.sl (to.map rT))),(5,.vs H.next 0 1 0 n),(6,aH a.1)],[],a.2⟩) (λa=>n-a.1)
  (λa=>a.1<=n/\H.next<a.2.next/\a.2.obj H.next=some (.vec 178 0 1 (fD to n a.1) true)/\∀m,m<H.next->a.2.obj m=H.obj m) (0,H.add (.vec 178 0 1 (fD to n 0) true)) ⟨⟨by simp,by rw[GH.aq];exact Nat.lt_succ_self _,by rw[GH.au,if_pos rfl],hlt⟩,by simp⟩ ?_
 rintro⟨i,H1⟩ ⟨hi,sQ,hv,jP⟩;simp only at hi sQ hv jP;refine AW.seq cc ?_;simp;refine⟨λh=>?_,λh=>?_⟩
 ·have hci':(List.take i (fD to n i)++LV.vs H1.next 0 1 0 n::List.drop (i+1) (fD to n i))[i]?=some (LV.vs H1.next 0 1 0 n):=by
   have hm:min i n=i:=by omega
   rw[List.getElem?_append_right (by simp;omega)];simp[hm]
  obtain⟨cs,hcs⟩:∃cs,List.take i (fD to n i)++LV.vs H1.next 0 1 0 n::List.drop (i+1) (fD to n i)=cs:=⟨_,rfl⟩;have mP:cs.length=n:=by rw[<-hcs];simp;omega
  rw[hcs]at hci';refine AW.join (c:=wR (aY [1] [] [15,24])) (λH2:GH=>⟨[(3,aH n),(4,.d (.sl (to.map rT))),(5,.vs H.next 0 1 0 n),(6,aH i)],[],H2⟩)
   (λH2=>H1.next<H2.next/\H2.obj H1.next=some (.vec 4 0 1 (bC (oq to i)) true)/\H2.obj H.next=some (.vec 178 0 1 cs true)/\∀m,m<H.next->H2.obj m=H.obj m) ?_ λH2 hj=>?_
  rotate_left
  ·obtain⟨j1,j2,j3,j4⟩:=hj;refine AW.cL (n:=H1.next) (g:=0) (sz:=1) (e:=4) (ex:=true) ((oq to i).map rB) j2 (R8 _).symm (rB_len _) ?_;refine AW.ev cc ?_;simp;refine NX.go (i+1,H2.cL H1.next 0 1 ((oq to i).map rB)) (by simp;omega) ⟨h,by simp;omega,?_,λm hm=>?_⟩ ?_
   ·simp only[GH.cL];rw[if_neg (by omega),j3]
    simp only[Option.map_some,GO.cL,CF];rw[<-hcs,Mc hn h]
   ·simp only[GH.cL];rw[if_neg (by omega),j4 m hm]
    cases ho:H.obj m with
    |none=>rfl
    |some o=>simp only[Option.map_some];rw[GO.uT (N:=H.next) (by omega) (hw.nb m o ho)]
   ·have e1:¬H.next=H1.next:=by omega
    have e2:H.next≠H1.next:=by omega
    simp[e1,aB (n:=1000000) (show i<1000000 by omega)]
  refine AW.block (c:=wR (aY [1] [] [15,24])) ?_;refine AW.seq cc ?_;have hv1:∀o,(H1.add o).obj H.next=some (.vec 178 0 1 (fD to n i) true):=λo=>by rw[GH.au,if_neg (by omega)];exact hv
  have hi1:i+1<=n:=h;simp[hv1,hi1,h];refine⟨by omega,by rw[GH.aq];exact Nat.lt_succ_self _,?_⟩
  have hrepB:jx n [LV.d (DV.k (Value.bool false))]=bC (List.replicate n false):=by simp[jx,bC]
  rw[hrepB];rw[hcs];obtain⟨B0,hB0⟩:∃B0,(H1.add (GO.vec 4 0 1 (bC (List.replicate n false)) true)).set H.next (GO.vec 178 0 1 cs true)=B0:=⟨_,rfl⟩;have b1:B0.next=H1.next+1:=by rw[<-hB0];rfl
  have b2:B0.obj H1.next=some (.vec 4 0 1 (bC (List.replicate n false)) true):=by rw[<-hB0,GH.ay,if_neg (by omega),GH.au,if_pos rfl]
  have b3:B0.obj H.next=some (.vec 178 0 1 cs true):=by rw[<-hB0,GH.ay,if_pos rfl]
  have b4:∀m,m<H.next->B0.obj m=H.obj m:=λm hm=>by rw[<-hB0,GH.ay,if_neg (by omega),GH.au,if_neg (by omega)];exact jP m hm
  rw[hB0];have hin:i<to.length:=by omega
  have hgd:∀j (hj:j<to.length),to.getD j []=to[j]:=λj hj=>by simp[List.getD,List.getElem?_eq_getElem hj]
  have AR:∀j (hj:j<to.length),to[j].length<=10000:=λj hj=>by
   have:to[j].length<=(to.map List.length).sum:=Q5 (List.mem_map.2 ⟨_,List.getElem_mem hj,rfl⟩);omega
  have hmr:∀l:List Nat,∀r∈l.map (λk=>rI (k:Nat)),r.length=1:=λl r hr=>by obtain⟨_,_,rfl⟩:=List.mem_map.1 hr;rfl
  refine AW.seq cc ?_;simp[hin,List.getElem?_eq_getElem hin,rT];refine eE.dJ lY rfl Gc (by simp) (by simp) (.nil) (by simp[rowsOf];rfl) (by simp) (by simp) (hmr _) (by have:=AR i hin;simp;omega) (by simp) λx0 H3 h3 _ _=>?_
  simp[h3.plain.all];refine AW.seq cc ?_;simp;refine AW.block (c:=wR (aY [1] [] [15,24])) ?_;refine AW.aU cc (λa:Nat×LV×List Nat×List Bool×GH×GH=>⟨[(3,aH n),(4,.d (.sl (to.map rT))),(5,.vs H.next 0 1 0 n),(6,aH i),(7,a.2.1),(8,aH a.1)],[],a.2.2.2.2.2⟩) (λa=>a.2.2.1.length+zo to a.2.2.2.1-a.1)
   (λa=>PF to i a.1 a.2.2.2.1 a.2.2.1/\cm 3 1 a.2.2.2.2.1 a.2.1 (a.2.2.1.map λk=>rI (k:Nat)) a.2.2.2.2.2/\a.2.2.2.2.1.next=H1.next+1/\a.2.2.2.2.1.obj H1.next=some (.vec 4 0 1 (bC a.2.2.2.1) true)/\a.2.2.2.2.1.obj H.next=some (.vec 178 0 1 cs true)/\
    (∀m,m<H.next->a.2.2.2.2.1.obj m=H.obj m)/\a.2.2.1.length+zo to a.2.2.2.1<=20000) (0,x0,to[i],List.replicate to.length false,B0,H3) ⟨⟨?_,?_,b1,?_,b3,b4,?_⟩,by simp[h3.only]⟩ ?_
  ·have:=PF.start hb hin;rw[hgd i hin]at this;exact this
  ·simpa using h3
  ·rw[hn];exact b2
  ·have:=AR i hin;have:=Ms to (List.replicate to.length false);simp only;omega
  rintro⟨k,x,todo,row,B,H2⟩ ⟨Dz,hap,c1,c2,c3,c4,hT⟩;simp only at Dz hap c1 c2 c3 c4 hT;have o1:H2.obj H1.next=some (.vec 4 0 1 (bC row) true):=by rw[hap.ob _ (by omega)];exact c2
  have o2:H2.obj H.next=some (.vec 178 0 1 cs true):=by rw[hap.ob _ (by omega)];exact c3
  have hrow:PF to i todo.length row todo->row=oq to i:=λDz=>by
   refine List.ext_getElem (by rw[Dz.len,Oe]) λj hj1 hj2=>?_
   have:=Dz.end j;rw[show row.getD j false=row[j]by simp[List.getD,List.getElem?_eq_getElem hj1]]at this
   rw[Bool.eq_iff_iff,this];simp[oq]
  rcases id hap.is with⟨e1,rfl⟩|⟨nn,e1,e2,rfl,e3⟩
  ·have e4:todo=[]:=by simpa using e1
   subst e4;have e5:k=0:=by have:=Dz.hk;simpa using this
   subst e5;simp;exact JN.go H2 ⟨by have:=hap.nx;omega,by rw[o1,hrow Dz],o2,λm hm=>by rw[hap.ob _ (by omega)];exact c4 m hm⟩ (by simp)
  simp;refine⟨λhk=>?_,λhk=>?_⟩
  ·have hbd:=Dz.bnd _ (List.getElem_mem hk);have hrl:=Dz.len;refine AW.draw cc [] (.q 0<|.q 1<|.q 2<|.q 4<|.q 5<|.q 6<|.q 3<|.q 7<|.q 8<|.q 9<|.q 10<|.done) (by kernel_rfl) ?_
   have hdn:todo[k]<n:=by omega
   have uG:todo[k]<row.length:=by omega
   simp[o1,o2,hk,List.getElem?_eq_getElem hk,hci',h,hdn,bC,uG,List.getElem?_eq_getElem uG,rI];have IT:row.getD todo[k] false=row[todo[k]]:=by simp[List.getD,List.getElem?_eq_getElem uG]
   have hk2:k<1000000:=by omega
   refine⟨λhq=>?_,λhq=>?_⟩
   ·refine AW.draw cc [] (.q 0<|.q 1<|.q 2<|.q 4<|.q 5<|.q 6<|.q 3<|.q 7<|.q 8<|.f<|.one 9<|.done) (by kernel_rfl) ?_
    simp[o1,o2,hk,List.getElem?_eq_getElem hk,hci',h,hdn,bC,uG,List.getElem?_eq_getElem uG,rI];have A5:todo[k]+1<=row.length:=uG;have ff:List.take todo[k] (List.map (λb=>LV.d (DV.k (Value.bool b))) row)++LV.d (DV.k (Value.bool true))::List.drop (todo[k]+1) (List.map (λb=>LV.d (DV.k (Value.bool b))) row)=bC (row.set todo[k] true):=by
     rw[bC,List.map_set,List.set_eq_take_append_cons_drop,if_pos (by simpa using uG)]
    have htd:todo[k]<to.length:=by omega
    simp[A5,ff,hk,List.getElem?_eq_getElem hk,htd,List.getElem?_eq_getElem htd,rI,rT];have hts:=Gt to row todo[k] htd uG hq;have hap':=hap.set (k:=H1.next) (by omega) (.vec 4 0 1 (bC (row.set todo[k] true)) true)
    refine eE.dJ lY rfl Gc (by simp) (x:=.kQ nn (todo.map λk=>rI (k:Nat))) (by simp[rI]) hap' (by simp[rowsOf];rfl) (by simp) (hmr _) (by simp) (by simp;omega) (by simp) λx2 H4 h4 _ _=>?_
    simp[h4.plain.all];refine NX.go (k+1,x2,todo++to[todo[k]],row.set todo[k] true,B.set H1.next (.vec 4 0 1 (bC (row.set todo[k] true)) true),H4) (by simp;omega) ⟨?_,by rw[List.map_append];exact h4,c1,by rw[GH.ay,if_pos rfl],by rw[GH.ay,if_neg (by omega)];exact c3,λm hm=>by rw[GH.ay,if_neg (by omega)];exact c4 m hm,by simp;omega⟩ (by simp[aB hk2,h4.only])
    have:=Dz.turn hb hk (by rw[IT];exact hq)
    rw[hgd _ htd]at this;exact this
   ·refine NX.go (k+1,.kQ nn (todo.map λk=>rI (k:Nat)),todo,row,B,H2) (by simp;omega) ⟨Dz.skip hk (by rw[IT];exact hq),hap,c1,c2,c3,c4,hT⟩ (by simp[aB hk2,rI])
  ·have hke:k=todo.length:=by have:=Dz.hk;omega
   subst hke;exact JN.go H2 ⟨by have:=hap.nx;omega,by rw[o1,hrow Dz],o2,λm hm=>by rw[hap.ob _ (by omega)];exact c4 m hm⟩ (by simp)
 ·have hin:i=n:=by omega
  subst hin;have J9:fD to i i=bG ((px to).map rR):=by
   have:(px to).map rR=(List.range to.length).map λk=>[DV.sl ((oq to k).map rB)]:=by
    simp only[px,List.map_map];rfl
   rw[this,OY,hn,fD];exact List.map_congr_left λk hk=>by rw[if_pos (List.mem_range.1 hk)]
  refine AW.cL (n:=H.next) (g:=0) (sz:=1) (e:=178) (ex:=true) ((px to).map rR) (by rw[<-J9];exact hv) rfl (λr hr=>by obtain⟨_,_,rfl⟩:=List.mem_map.1 hr;rfl) ?_
  refine AW.ev cc ?_;have hl:(px to).length=i:=by simp[px,hn]
  simp[hl];refine λ_=>⟨aO (by simp;omega) (λm hm=>?_) hw.none,List.take_of_length_le (by simp[hl])⟩
  simp only;rw[if_neg (by omega),jP m hm]
  cases ho:H.obj m with
  |none=>rfl
  |some o=>simp only[Option.map_some];rw[GO.uT (N:=H.next) (by omega) (hw.nb m o ho)]
def ru(n:Nat)(R:Nat->Nat->Bool)(i:Nat):Bool:=R i i&&(bO n R i).head? ==some i
def Aw(n:Nat)(R:Nat->Nat->Bool):List (List Bool):=(List.range n).map λi=>(List.range n).map λj=>R i j
theorem Cg(p:Prog)(n:Nat)(R:Nat->Nat->Bool)(h6:n<=6)(h170:aC prog 130 [lv (ax p)] (sl ((Aw n R).map rR))):aC prog 128 [lv (ax p)] (sl ((dG n R).map rT)):=by
 have cc:=ar (p:=aY [1] [] []);refine aC.vz (ar (p:=aY [1] [] [])) func128 rfl call128 (by rw[ntmps128];simp) rfl λhf H=>?_
 simp[ax]at h170;simp[ntmps128,results128,ax]at hf|-;refine AW.seq cc ?_;simp;refine AW.seq cc ?_;simp;refine EC.aJ h170 ?_;have hrow:∀i,i<n->((Aw n R).map rR)[i]?=some (rR ((List.range n).map λj=>R i j)):=λi hi=>by simp[Aw,List.getElem?_range hi]
 have hcell:∀i j,j<n->(((List.range n).map λj=>R i j).map rB)[j]?=some (rB (R i j)):=λi j hj=>by simp[List.getElem?_range hj]
 have FY:(Aw n R).length=n:=by simp[Aw]
 obtain⟨M,hM⟩:∃M,(Aw n R).map rR=M:=⟨_,rfl⟩;rw[hM]at hrow|-;have hlM:M.length=n:=by rw[<-hM];simpa using FY
 have AV:∀i (hi:i<M.length),M[i]=rR ((List.range n).map λj=>R i j):=λi hi=>by
  have:=hrow i (by omega)
  rw[List.getElem?_eq_getElem hi]at this;exact Option.some.inj this
 simp;refine AW.seq cc ?_;simp;refine AW.seq cc ?_;simp;refine AW.Dg cc (λa:Nat×LV×GH=>⟨[(3,.d (.sl M)),(4,a.2.1),(5,aH a.1)],[],a.2.2⟩) (λa=>n-a.1)
  (λa=>a.1<=n/\cm 94 1 H a.2.1 ((((List.range a.1).filter (ru n R)).map (bO n R)).map rT) a.2.2) (0,.d (.k (.slice none 0 0)),H) ⟨⟨by simp,.nil⟩,by simp⟩ ?_
 rintro⟨i,x,H1⟩ ⟨hi,hap⟩;simp only at hi hap;refine AW.seq cc ?_;simp[hlM];refine⟨λh=>?_,λh=>?_⟩
 ·refine AW.seqW (c:=wR (aY [1] [] [])) ?_;refine AW.block (c:=wR (aY [1] [] [])) ?_;refine AW.seq cc ?_;simp[hrow i h,hcell i i h,rR,rB,h];have hi2:i<1000000:=by omega
  have Fc:List.range (i+1)=List.range i++[i]:=List.range_succ;refine⟨by omega,λhq=>?_,λhq=>?_⟩
  ·refine AW.ev cc ?_;simp;refine NX.go (i+1,x,H1) (by simp;omega) ⟨h,?_⟩ (by simp[hap.only,aB hi2])
   rw[Fc,List.filter_append];simpa[ru,hq]using hap
  refine AW.seq cc ?_;simp;refine AW.seq cc ?_;simp;refine AW.aU cc (λa:Nat×LV×GH=>⟨[(3,.d (.sl M)),(4,x),(5,aH i),(6,a.2.1),(7,aH a.1)],[],a.2.2⟩) (λa=>n-a.1)
   (λa=>a.1<=n/\cm 3 1 H1 a.2.1 (((List.range a.1).filter λk=>k==i||R i k&&R k i).map λk=>rI (k:Nat)) a.2.2) (0,.d (.k (.slice none 0 0)),H1) ⟨⟨by simp,.nil⟩,by simp[hap.only]⟩ ?_
  rintro⟨k,y,H2⟩ ⟨hk,hin⟩;simp only at hk hin;simp[hlM];refine⟨λhkn=>?_,λhkn=>?_⟩
  ·simp[AV,hrow i h,hrow k hkn,hcell i k hkn,hcell k i h,rR,rB,h,hkn,hlM];have hk2:k<1000000:=by omega
   have Fc:List.range (k+1)=List.range k++[k]:=List.range_succ;have hfl:((List.range k).filter λk=>k==i||R i k&&R k i).length<=k:=by
    have:=List.length_filter_le (λk=>k==i||R i k&&R k i) (List.range k);simpa using this
   refine⟨λq=>⟨q,λq2=>⟨q,q2⟩⟩,λq=>⟨hin.plain.tL,?_⟩,λq1 q2=>?_⟩
   ·refine eE.dJ lY rfl Gc (by simp) (x:=y) (by simp[hin.plain.un]) hin (by simp[rowsOf];rfl) (by simp) (λr hr=>by obtain⟨_,_,rfl⟩:=List.mem_map.1 hr;rfl) (by simp) (by simp;omega) (by simp) λx2 H4 h4 _ _=>?_
    simp[h4.plain.all];refine NX.go (k+1,x2,H4) (by simp;omega) ⟨hkn,?_⟩ (by simp[h4.only,hap.only,aB hk2])
    have hc:(k==i||R i k&&R k i)=true:=by
     rcases q with q|q
     ·have:k=i:=by omega
      simp[this]
     ·simp[q]
    rw[Fc,List.filter_append,List.map_append];simpa[hc,rI]using h4
   ·refine NX.go (k+1,y,H2) (by simp;omega) ⟨hkn,?_⟩ (by simp[hin.only,hap.only,aB hk2])
    have hc:(k==i||R i k&&R k i)=false:=by
     simp;exact⟨by omega,q2⟩
    rw[Fc,List.filter_append];simpa[hc]using hin
  ·have hke:k=n:=by omega
   subst hke;have hin:cm 3 1 H1 y ((bO k R i).map λk=>rI (k:Nat)) H2:=hin
   obtain⟨a,l,yO⟩:∃a l,bO k R i=a::l:=by
    cases hh:bO k R i with
    |nil=>have:i∈bO k R i:=bK.2 ⟨h,.inl rfl⟩;rw[hh]at this;cases this
    |cons a l=>exact⟨a,l,rfl⟩
   have hfl:(((List.range i).filter (ru k R)).map (bO k R)).length<=i:=by
    have:=List.length_filter_le (ru k R) (List.range i);simpa using this
   rw[yO]at hin;refine AW.fzT 6 (AW.ev cc ?_);simp[hin.fz,hap.plain.all,rI];refine⟨λq=>?_,λq=>?_⟩
   ·have hc:ru k R i=true:=by simp[ru,yO,hq];omega
    refine eE.dJ zi rfl lY (by simp) (x:=x) (by simp) (hap.mono hin.nx hin.ob) (by simp[rowsOf];rfl) (by simp) (λr hr=>by obtain⟨_,_,rfl⟩:=List.mem_map.1 hr;rfl) (by simp) (by simp at hfl|-;omega) (by simp) λx2 H4 h4 _ _=>?_
    simp[h4.plain.all];refine AW.ev cc ?_;simp;refine NX.go (i+1,x2,H4) (by simp;omega) ⟨h,?_⟩ (by simp[h4.only,aB hi2])
    rw[Fc,List.filter_append,List.map_append,List.map_append];simpa[hc,rT,yO,rI]using h4
   ·have hc:ru k R i=false:=by simp[ru,yO,hq];omega
    refine AW.ev cc ?_;simp;refine NX.go (i+1,x,H2) (by simp;omega) ⟨h,?_⟩ (by simp[hap.only,aB hi2])
    rw[Fc,List.filter_append];simpa[hc]using hap.mono hin.nx hin.ob
 ·have e:i=n:=by omega
  subst e;refine AW.ev cc ?_;simp[hap.plain.all,hap.fz];refine⟨?_,hap.nx,hap.ob⟩;rw[dG,List.map_map];rfl
def Ib(x:PV):LV:=.agg [aH x.kids,aH x.aD,.d (.k (.bool x.name)),.d (.k (.bool x.fold)),aH x.low,aH x.high]
def jD:List (Value×LV):=[1,2,3,4,5,6,7,8,9,10,11,12,13,14,15].map λop:Int=>(.int .i64 op,Ib ((bF op).getD ⟨0,0,false,false,0,0⟩))
theorem gh{a b:Int}:wv (.int .i64 a) (.int .i64 b)=decide (a=b):=by simp[wv,uU];rfl
theorem Db(op:Int):bz (.int .i64 op) jD=(bF op).map Ib:=by
 by_cases h:1<=op/\op<=15
 ·have:op=1\/ op=2\/ op=3\/ op=4\/ op=5\/ op=6\/ op=7\/ op=8\/ op=9\/ op=10\/ op=11\/ op=12\/ op=13\/ op=14\/ op=15:=by omega
  rcases this with rfl|rfl|rfl|rfl|rfl|rfl|rfl|rfl|rfl|rfl|rfl|rfl|rfl|rfl|rfl<;>rfl
 ·have hn:bF op=none:=by
   unfold bF
   repeat (rw[if_neg (by omega)])
  rw[hn];simp only[jD,List.map_cons,List.map_nil,bz,gh];rw[decide_eq_false (by omega),decide_eq_false (by omega),decide_eq_false (by omega),decide_eq_false (by omega),decide_eq_false (by omega),decide_eq_false (by omega),decide_eq_false (by omega),decide_eq_false (by omega),decide_eq_false (by omega),decide_eq_false (by omega),decide_eq_false (by omega),decide_eq_false (by omega),decide_eq_false (by omega),decide_eq_false (by omega),decide_eq_false (by omega)]
  rfl
def shp0:PV:=⟨0,0,false,false,0,0⟩
@[simp] theorem has_int (n:Int):(KK.sc (Sc.int .i64)).has (.int .i64 n)=true:=rfl
theorem UR:(∀(a:Value) (b:LV),(a,b)∈jD->(KK.sc (Sc.int .i64)).has a=true)=True:=by
 refine eq_true λa b hab=>?_
 simp only[jD,List.mem_map]at hab;obtain⟨s,_,q⟩:=hab;cases q;rfl
theorem US(op:Int):(bz (.int .i64 op) jD).getD (.agg [.d (.k (.int .i64 0)),.d (.k (.int .i64 0)),.d (.k (.bool false)),.d (.k (.bool false)),.d (.k (.int .i64 0)),.d (.k (.int .i64 0))])=Ib ((bF op).getD shp0):=by
 rw[Db];cases bF op<;>rfl
theorem Qg(op:Int):(bz (.int .i64 op) jD).isSome=(bF op).isSome:=by
 rw[Db];cases bF op<;>rfl
theorem Gj(H:GH):aF prog 154 [] H λce H'=>ce=.ret (.gm H.next)/\H'=H.add (.map jD):=by
 have cc:=aP;refine aF.bD aP func154 rfl call154 (by rw[ntmps154];simp) rfl λhf hw=>?_
 simp[ntmps154,results154,GH.au,GH.aq,GH.cT,KK.has,Sc.has,cg,gh,jD,Ib,bF];exact λhz=>hz.drop (by rw[GH.aq];omega)
end Go.Aft
end
