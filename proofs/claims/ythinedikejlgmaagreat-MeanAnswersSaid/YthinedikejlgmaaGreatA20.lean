import Derived.Test.YthinedikejlgmaaGreatA19
set_option linter.all false
section
set_option maxRecDepth 20000
namespace Go.Aft
open Go.Proofs.Tryz
structure BM(H:GH)(n m1 m2 m3:Nat)(az aj:List ca)(ahead nodes:Int):Prop where
 sc:H.obj n=some (scp [.gm m1,.gm m2,.gm m3] ahead nodes)
 o1:H.obj m1=some (.map (dR az 0))
 o2:H.obj m2=some (.map (dR aj 0))
 o3:H.obj m3=some (.map jD)
theorem BM.ne{H:GH}{n m1 m2 m3:Nat}{az aj:List ca}{a k:Int}(h:BM H n m1 m2 m3 az aj a k):m1≠n/\m2≠n/\m3≠n:=by
 refine⟨λe=>?_,λe=>?_,λe=>?_⟩
 ·have:=h.o1;rw[e,h.sc]at this;cases this
 ·have:=h.o2;rw[e,h.sc]at this;cases this
 ·have:=h.o3;rw[e,h.sc]at this;cases this
theorem BM.set{H:GH}{n m1 m2 m3:Nat}{az aj:List ca}{a k:Int}(h:BM H n m1 m2 m3 az aj a k)(a' k':Int):BM (H.set n (scp [.gm m1,.gm m2,.gm m3] a' k')) n m1 m2 m3 az aj a' k':=by
 obtain⟨e1,e2,e3⟩:=h.ne;exact⟨GH.aX,by rw[GH.ay,if_neg e1];exact h.o1,by rw[GH.ay,if_neg e2];exact h.o2,by rw[GH.ay,if_neg e3];exact h.o3⟩
def Mj(H:GH)(n m1 m2 m3:Nat)(ahead:Int)(r:Option Int):CE->GH->Prop:=λce H'=>match r with
 |some l=>(∃v,ce=.ret v)/\H'=H.set n (scp [.gm m1,.gm m2,.gm m3] ahead (60-l))
 |none=>ce=.dY bZ/\∃m,H'=H.set n (scp [.gm m1,.gm m2,.gm m3] ahead m)
theorem NV(op en fold:Int)(name:ca)(aD:List bc)(kids:List bw)(az aj:List ca)
  (ih:∀k∈kids,∀(n m1 m2 m3:Nat) (H:GH) (ahead nodes depth:Int),BM H n m1 m2 m3 az aj ahead nodes->0<=nodes->nodes<=60->0<=depth->depth<=100->
   aF prog 156 [.gp n 0,lv (aQ k),aH depth] H (Mj H n m1 m2 m3 ahead (fF az aj ahead k depth (60-nodes))))
  (n m1 m2 m3:Nat) (H:GH) (ahead nodes depth:Int) (hs:BM H n m1 m2 m3 az aj ahead nodes) (h0:0<=nodes) (h1:nodes<=60) (VB:0<=depth) (A5:depth<=100):
   aF prog 156 [.gp n 0,lv (aQ (.mk op name en fold aD kids)),aH depth] H (Mj H n m1 m2 m3 ahead (fF az aj ahead (.mk op name en fold aD kids) depth (60-nodes))):=by
 have cc:=ar (p:=aY [4] [] []);refine aF.dV (ar (p:=aY [4] [] [])) func156 rfl call156 (by rw[ntmps156];simp) rfl λhf hw=>?_
 simp[ntmps156,results156,ai]at hf|-;have hc:ct H.next [.gm m1,.gm m2,.gm m3]:=by
  have:=hw.nb n _ hs.sc;simp[scp,GO.nb,ct,LV.nb]at this|-;exact this
 have hlt:=hw.lt hs.sc;have uG:∀m,gD (H.set n (scp [.gm m1,.gm m2,.gm m3] ahead m))->Drop H (H.set n (scp [.gm m1,.gm m2,.gm m3] ahead m)) (H.set n (scp [.gm m1,.gm m2,.gm m3] ahead m)):=λm hz=>hz.drop (by rw[GH.aL];exact Nat.le_refl _)
 have hno:∀m,¬(depth<=10/\1<=60-nodes/\gI op name en fold aD.length kids.length=true/\di az aj ahead op name=true)->gD (H.set n (scp [.gm m1,.gm m2,.gm m3] ahead m))->
   ∃H',Drop H (H.set n (scp [.gm m1,.gm m2,.gm m3] ahead m)) H'/\(bZ:LV).nb H'.next/\Mj H n m1 m2 m3 ahead (fF az aj ahead (.mk op name en fold aD kids) depth (60-nodes)) (.dY bZ) H':=λm hq hz=>by
  refine⟨_,uG m hz,by simp[bZ,LV.nb],?_⟩
  rw[fF,if_neg hq];exact⟨rfl,_,rfl⟩
 refine AW.seq cc ?_;simp;refine AW.seq cc ?_;simp[hlt];refine EC.need (Gk n H _ _ _ ahead nodes depth hs.sc hc h0 (by omega)) (λhb v=>?_) (λhb=>?_)
 rotate_left
 ·simp;exact hno _ (by omega)
 have hs1:=hs.set ahead (nodes+1);have o0:=hs1.sc;have o1:=hs1.o1;have o2:=hs1.o2;have o3:=hs1.o3;obtain⟨e1,e2,e3⟩:=hs.ne;generalize wI:H.set n (scp [.gm m1,.gm m2,.gm m3] ahead (nodes+1))=H1 at o0 o1 o2 o3;have sQ:H1.next=H.next:=by rw[<-wI];rfl
 simp[wI];refine AW.seq cc ?_;refine AW.draw cc [] (.q 0<|.q 1<|.q 2<|.q 4<|.q 3<|.q 5<|.q 6<|.q 7<|.q 8<|.q 9<|.f<|.one 10<|.f<|.one 11<|.q 12<|.done) (by kernel_rfl) ?_
 obtain⟨x,hx⟩:∃x,(bF op).getD shp0=x:=⟨_,rfl⟩;simp[o0,o3,scp,US,Qg,UR,hx,Ib];have hno':¬(gI op name en fold aD.length kids.length=true/\di az aj ahead op name=true)->gD H1->∃H',Drop H H1 H'/\(bZ:LV).nb H'.next/\Mj H n m1 m2 m3 ahead (fF az aj ahead (.mk op name en fold aD kids) depth (60-nodes)) (.dY bZ) H':=λhq hz=>by
  rw[<-wI]at hz|-;exact hno _ (λq=>hq q.2.2) hz
 have hE:gI op name en fold aD.length kids.length=true↔((bF op).isSome=true/\(kids.length:Int)=x.kids/\(aD.length:Int)=x.aD/\(x.name= !decide (name={data:=#[]}))/\x.low<=en/\en<=x.high)/\(if x.fold=true then 1<=fold/\fold<=4 else fold=0):=by
  unfold gI;cases hsh:bF op with
  |none=>simp
  |some y=>
   rw[hsh]at hx;simp only[Option.getD_some]at hx;subst hx;have Vu:decide (name≠cF)= !decide (name={data:=#[]}):=by
    rw[decide_not];rfl
   simp only[Vu,Bool.and_eq_true,decide_eq_true_eq,beq_iff_eq,Option.isSome_some,true_and];cases y.fold
   ·simp only[Bool.false_eq_true,if_false,decide_eq_true_eq];constructor
    ·rintro⟨⟨⟨⟨a,b⟩,c⟩,d,e⟩,f⟩;exact⟨⟨a,b,c,d,e⟩,f⟩
    ·rintro⟨⟨a,b,c,d,e⟩,f⟩;exact⟨⟨⟨⟨a,b⟩,c⟩,d,e⟩,f⟩
   ·simp only[if_true,decide_eq_true_eq];constructor
    ·rintro⟨⟨⟨⟨a,b⟩,c⟩,d,e⟩,f⟩;exact⟨⟨a,b,c,d,e⟩,f⟩
    ·rintro⟨⟨a,b,c,d,e⟩,f⟩;exact⟨⟨⟨⟨a,b⟩,c⟩,d,e⟩,f⟩
 refine AW.seq cc ?_;simp;refine EC.need (eb _ _) (λLW v1=>?_) (λLW=>?_)
 rotate_left
 ·simp only[Bool.and_eq_true,decide_eq_true_eq,beq_iff_eq]at LW;simp;refine hno' λq=>LW ?_
  obtain⟨a,b,c,d,e,f⟩:=(hE.1 q.1).1;exact⟨⟨⟨⟨⟨a,b⟩,c⟩,d⟩,e⟩,f⟩
 simp only[Bool.and_eq_true,decide_eq_true_eq,beq_iff_eq]at LW;simp;refine AW.seq cc ?_;simp;refine⟨λq=>⟨q,λq2=>⟨q,q2⟩⟩,?_,?_⟩
 ·cases x.fold<;>simp<;>omega
 refine EC.need (eb _ _) (λLU v2=>?_) (λLU=>?_)
 rotate_left
 ·simp;refine hno' λq=>LU ?_
  have:=(hE.1 q.1).2
  revert this
  cases x.fold<;>simp
 have hok:gI op name en fold aD.length kids.length=true:=by
  refine hE.2 ⟨⟨LW.1.1.1.1.1,LW.1.1.1.1.2,LW.1.1.1.2,LW.1.1.2,LW.1.2,LW.2⟩,?_⟩
  revert LU
  cases x.fold<;>simp
 simp;refine AW.seq cc ?_;refine AW.draw cc [] (.q 0<|.q 1<|.q 2<|.q 3<|.q 5<|.q 4<|.q 6<|.q 7<|.q 8<|.q 9<|.q 10<|.q 11<|.q 12<|.done) (by kernel_rfl) ?_
 simp[o0,o1,scp,pE,u5,jZ];refine AW.seq cc ?_;refine AW.draw cc [] (.q 0<|.q 1<|.q 2<|.q 3<|.q 5<|.q 4<|.q 6<|.q 7<|.q 8<|.q 9<|.q 10<|.q 11<|.q 12<|.done) (by kernel_rfl) ?_
 simp[o0,o2,scp,pE,u5,jZ];refine AW.join (c:=wR (aY [4] [] [])) (λ_:Unit=>⟨[(0,.gp n 0),(2,aH depth),(4,.ip ((aQ (.mk op name en fold aD kids)).map .d) 0)],[],H1⟩)
  (λ_=>di az aj ahead op name=true) (AW.ev cc ?_) λ_ hk=>?_
 ·have Ct:di az aj ahead op name≠true->gD H1->∃H',Drop H H1 H'/\(bZ:LV).nb H'.next/\Mj H n m1 m2 m3 ahead (fF az aj ahead (.mk op name en fold aD kids) depth (60-nodes)) (.dY bZ) H':=λq=>hno' λq2=>q q2.2
  have hop:op=1\/ op=2\/ op=3\/ (op≠1/\op≠2/\op≠3):=by omega
  rcases hop with rfl|rfl|rfl|⟨n1,n2,n3⟩
  ·simp;refine EC.need (eb _ _) (λhb v=>?_) (λhb=>?_)
   ·simp;exact JN.go () (by simpa[di]using hb) (by simp[ai])
   ·simp;exact Ct (by simpa[di]using hb)
  ·simp[o0,scp];have hb0:di az aj ahead 2 name=(decide (0<=idx aj name)&&decide (HF aj name<ahead)):=by
    unfold HF;by_cases q:idx aj name<0
    ·have q2:¬0<=idx aj name:=by omega
     simp[di,q2]
    ·simp[di,q]
   refine EC.need (eb _ _) (λhb v=>?_) (λhb=>?_)
   ·simp;exact JN.go () (by rw[hb0];exact hb) (by simp[ai])
   ·simp;exact Ct (by rw[hb0];exact hb)
  ·simp;refine EC.need (eb _ _) (λhb v=>?_) (λhb=>?_)
   ·simp;exact JN.go () (by simpa[di]using hb) (by simp[ai])
   ·simp;exact Ct (by simpa[di]using hb)
  ·simp[n1,n2,n3];exact JN.go () (by simp[di,n1,n2,n3]) (by simp[ai])
 ·have hsp:fF az aj ahead (.mk op name en fold aD kids) depth (60-nodes)=match cp (decide (op=12\/ op=13)) aD 1 (59-nodes)with
   |some l=>eO az aj ahead kids (depth+1) l
   |none=>none:=by
   rw[fF,if_pos ⟨by omega,by omega,hok,hk⟩,show 60-nodes-1=59-nodes by omega]
   cases cp (decide (op=12\/ op=13)) aD 1 (59-nodes)<;>rfl
  rw[hsp]
  clear hsp
  obtain⟨ob,jP⟩:∃ob,decide (op=12\/ op=13)=ob:=⟨_,rfl⟩;rw[jP];have w1:IntKind.wrap .i64 (depth+1)=depth+1:=by rw[wrap64]<;>omega
  refine AW.join (c:=wR (aY [4] [] [])) (λl:Int=>⟨[(0,.gp n 0),(2,aH depth),(4,.ip ((aQ (.mk op name en fold aD kids)).map .d) 0)],[],H.set n (scp [.gm m1,.gm m2,.gm m3] ahead (60-l))⟩)
   (λl=>cp ob aD 1 (59-nodes)=some l) (AW.ev cc ?_) λl hl=>?_
  ·simp[ai];refine AW.aU cc (λa:Nat×Int=>⟨[(0,.gp n 0),(2,aH depth),(4,.ip ((aQ (.mk op name en fold aD kids)).map .d) 0),(137,.d (.sl (aD.map bB))),(138,aH aD.length),(139,aH a.1)],[],H.set n (scp [.gm m1,.gm m2,.gm m3] ahead (60-a.2))⟩) (λa=>aD.length-a.1)
    (λa=>a.1<=aD.length/\0<=a.2/\a.2<=59-nodes/\cp ob aD 1 (59-nodes)=cp ob (aD.drop a.1) 1 a.2) (0,59-nodes) ⟨⟨by simp,by simp;omega,by simp,by simp⟩,by simp[ai,show 60-(59-nodes)=nodes+1 by omega,wI]⟩ ?_
   rintro⟨i,left⟩ ⟨hi,hl0,Dr,hI⟩;simp only at hi hl0 Dr hI;simp;refine⟨λh=>?_,λh=>?_⟩
   ·have hd:=List.drop_eq_getElem_cons h;rw[hd,cp]at hI;simp[h,List.getElem?_eq_getElem h,aN,ai,hlt,GH.aL];have ho:(op==12||op==13)=ob:=by
     rw[<-jP,Bool.eq_iff_iff];simp
    rw[ho];have ih':=CH ob aD[i] n (H.set n (scp [.gm m1,.gm m2,.gm m3] ahead (60-left))) (.gm m1) (.gm m2) (.gm m3) ahead (60-left) 1 GH.aX (by omega) (by omega) (by omega) (by omega)
    rw[show 60-(60-left)=left by omega]at ih'
    simp only[GH.set_set,Q2,aN,List.map_cons,List.map_nil,AA]at ih';refine EC.of ih' (λv' H' hR=>?_) (λv' H' hR=>?_)
    ·cases hl:dy ob aD[i] 1 left with
     |none=>rw[hl]at hR;cases hR.1
     |some l=>
      rw[hl]at hR hI;have hle:=mB _ _ _ _ hl;obtain⟨_,rfl⟩:=hR;simp[aB h hf.1.1];exact NX.go (i+1,l) (by simp;omega) ⟨h,hle.1,by simp only;omega,hI⟩ (by simp[ai])
    ·cases hl:dy ob aD[i] 1 left with
     |some l=>rw[hl]at hR;obtain⟨⟨_,q⟩,_⟩:=hR;cases q
     |none=>
      rw[hl]at hR hI;obtain⟨q,m,rfl⟩:=hR;cases q;simp;refine λhz=>⟨_,uG _ hz,by simp[bZ,LV.nb],?_⟩
      rw[hI];exact⟨rfl,_,rfl⟩
   ·have:aD.drop i=[]:=List.drop_eq_nil_of_le h;rw[this,cp]at hI;exact JN.go left hI (by simp[ai])
  ·have hlb:=oz _ _ _ _ hl (by omega)
   rw[hl];refine AW.ev cc ?_;simp[ai];refine AW.aU cc (λa:Nat×Int=>⟨[(0,.gp n 0),(2,aH depth),(156,.d (.sl (kids.map aQ))),(157,aH kids.length),(158,aH a.1)],[],H.set n (scp [.gm m1,.gm m2,.gm m3] ahead (60-a.2))⟩) (λa=>kids.length-a.1)
    (λa=>a.1<=kids.length/\0<=a.2/\a.2<=l/\eO az aj ahead kids (depth+1) l=eO az aj ahead (kids.drop a.1) (depth+1) a.2) (0,l) ⟨⟨by simp,by simp;omega,by simp,by simp⟩,by simp⟩ ?_
   rintro⟨i,left⟩ ⟨hi,hl0,Dr,hI⟩;simp only at hi hl0 Dr hI;simp;refine⟨λh=>?_,λh=>?_⟩
   ·have hd:=List.drop_eq_getElem_cons h;rw[hd,eO]at hI;simp[h,List.getElem?_eq_getElem h,ai,hlt,w1,GH.aL];have ih':=ih kids[i] (List.getElem_mem h) n m1 m2 m3 (H.set n (scp [.gm m1,.gm m2,.gm m3] ahead (60-left))) ahead (60-left) (depth+1) (hs.set _ _) (by omega) (by omega) (by omega) (by omega)
    rw[show 60-(60-left)=left by omega]at ih'
    simp only[Mj,GH.set_set,Q2,ai,List.map_cons,List.map_nil,AA]at ih';refine EC.of ih' (λv' H' hR=>?_) (λv' H' hR=>?_)
    ·cases hl:fF az aj ahead kids[i] (depth+1) left with
     |none=>rw[hl]at hR;cases hR.1
     |some l2=>
      rw[hl]at hR hI;have hle:=lF _ _ _ _ hl;obtain⟨_,hH⟩:=hR;rw[GH.set_set]at hH;subst hH;simp[aB h hf.2.1];exact NX.go (i+1,l2) (by simp;omega) ⟨h,hle.1,by simp only;omega,hI⟩ (by simp)
    ·cases hl:fF az aj ahead kids[i] (depth+1) left with
     |some l=>rw[hl]at hR;obtain⟨⟨_,q⟩,_⟩:=hR;cases q
     |none=>
      rw[hl]at hR hI;obtain⟨q,m,hH⟩:=hR;rw[GH.set_set]at hH;subst hH;cases q;simp;refine λhz=>⟨_,uG _ hz,by simp[bZ,LV.nb],?_⟩
      rw[hI];exact⟨rfl,_,rfl⟩
   ·have:kids.drop i=[]:=List.drop_eq_nil_of_le h;rw[this,eO]at hI;rw[hI];exact λhz=>⟨_,uG _ hz,⟨_,rfl⟩,rfl⟩
theorem Gm(az aj:List ca):∀(e:bw) (n m1 m2 m3:Nat) (H:GH) (ahead nodes depth:Int),BM H n m1 m2 m3 az aj ahead nodes->0<=nodes->nodes<=60->0<=depth->depth<=100->
   aF prog 156 [.gp n 0,lv (aQ e),aH depth] H (Mj H n m1 m2 m3 ahead (fF az aj ahead e depth (60-nodes)))
 |.mk op name en fold aD kids,n,m1,m2,m3,H,ahead,nodes,depth,hs,h0,h1,VB,A5=>
  NV op en fold name aD kids az aj (λk hk n m1 m2 m3 H ahead nodes depth hs h0 h1 VB A5=>Gm az aj k n m1 m2 m3 H ahead nodes depth hs h0 h1 VB A5) n m1 m2 m3 H ahead nodes depth hs h0 h1 VB A5
theorem Cr(l:List bw)(f:FuncId)(cap:List LV)(H:GH)(Kp:Nat->GH->Prop)(Sp:GH->Prop)(Pp:LV->GH->Prop)
  (hK:∀j H',Kp j H'->H.next<=H'.next) (hS:∀H',Sp H'->H.next<=H'.next) (hP:∀x H',Pp x H'->H.next<=H'.next/\x.nb H'.next) (hcap:ct H.next cap)
  (hc:∀(j:Nat) (h:j<l.length) (H':GH),Kp j H'->aF prog f ([lv (aQ l[j])]++cap) H' λce H2=>match ce with
   |.ret v=>v=bool false/\Kp (j+1) H2\/ v=bool true/\Sp H2
   |.dY x=>Pp x H2) (h0:Kp 0 H):
  aF prog 213 [sl (l.map aQ),.fn (.func f) [] cap] H λce H'=>match ce with
   |.ret v=>v=aH (-1)/\Kp l.length H'\/ (∃q:Nat,v=aH q)/\Sp H'
   |.dY x=>Pp x H':=by
 have cc:=aP;refine aF.bD aP func213 rfl call213 (by rw[ntmps213];simp) rfl λhf hw=>?_
 simp[ntmps213,results213]at hf|-;refine AW.aU cc (λa:Nat×GH=>⟨[(0,.d (.sl (l.map aQ))),(1,.fn (.func f) [] cap),(7,aH l.length),(8,aH a.1)],[],a.2⟩) (λa=>l.length-a.1) (λa=>a.1<=l.length/\Kp a.1 a.2) (0,H) ⟨⟨by simp,h0⟩,by simp[LV.only,cQ _ hcap,dQ]⟩ ?_
 rintro⟨i,H'⟩ ⟨hi,hk⟩;simp only at hi hk;simp;have sQ:=hK _ _ hk;refine⟨λh=>?_,λh=>?_⟩
 ·have gG:=hc i h H' hk;simp[ai]at gG;simp[h,List.getElem?_eq_getElem h,ai];refine⟨eN sQ _ hcap,EC.of gG (λv H2 hR=>?_) (λv H2 hR=>?_)⟩
  ·rcases hR with⟨rfl,hR⟩|⟨rfl,hR⟩
   ·simp;exact NX.go (i+1,H2) (by simp;omega) ⟨h,hR⟩ (by simp[aB h hf.1.1,cQ _ hcap])
   ·simp;exact λhz=>⟨H2,hz.drop (hS _ hR),⟨i,rfl⟩,hR⟩
  ·simp;exact λhz=>⟨H2,hz.drop (hP _ _ hR).1,(hP _ _ hR).2,hR⟩
 ·have:i=l.length:=by omega
  subst this;exact λhz=>⟨H',hz.drop sQ,hk⟩
theorem oJ(l:List bw)(f:FuncId)(cap:List LV)(H:GH)(Kp:Nat->GH->Prop)(Sp:GH->Prop)(Pp:LV->GH->Prop)
  (hK:∀j H',Kp j H'->H.next<=H'.next) (hS:∀H',Sp H'->H.next<=H'.next) (hP:∀x H',Pp x H'->H.next<=H'.next/\x.nb H'.next) (hcap:ct H.next cap)
  (hc:∀(j:Nat) (h:j<l.length) (H':GH),Kp j H'->aF prog f ([lv (aQ l[j])]++cap) H' λce H2=>match ce with
   |.ret v=>v=bool false/\Kp (j+1) H2\/ v=bool true/\Sp H2
   |.dY x=>Pp x H2) (h0:Kp 0 H):
  aF prog 166 [sl (l.map aQ),.fn (.func f) [] cap] H λce H'=>match ce with
   |.ret v=>v=bool false/\Kp l.length H'\/ v=bool true/\Sp H'
   |.dY x=>Pp x H':=by
 have cc:=aP;refine aF.bD aP func166 rfl call166 (by rw[ntmps166];simp) rfl λhf hw=>?_
 simp[ntmps166,results166]at hf|-;have hi:=Cr l f cap H Kp Sp Pp hK hS hP hcap hc h0;simp at hi;refine⟨by simp[LV.nb,ct,hcap],EC.of hi (λv H2 hR=>?_) (λv H2 hR=>?_)⟩
 ·rcases hR with⟨rfl,hR⟩|⟨⟨q,rfl⟩,hR⟩
  ·simp;exact λhz=>⟨H2,hz.drop (hK _ _ hR),hR⟩
  ·simp;exact λhz=>⟨H2,hz.drop (hS _ hR),hR⟩
 ·simp;exact λhz=>⟨H2,hz.drop (hP _ _ hR).1,(hP _ _ hR).2,hR⟩
theorem eX{a b:Nat}(h:a<=b){x:LV}(hx:x.nb a):x.nb b:=by
 have:=eN h [x] (by simp[ct,hx])
 simpa[ct]using this
theorem GO.eX{a b:Nat}(h:a<=b){o:GO}(ho:o.nb a):o.nb b:=by
 cases o with
 |box cs=>exact eN h _ ho
 |map es=>exact eN h _ ho
 |vec e g sz cells ex=>exact eN h _ ho
 |fz cs=>exact eN h _ ho
 |iter m s l k=>exact Nat.lt_of_lt_of_le ho h
 |loop f st pend env nt ps lu body d=>exact⟨Nat.lt_of_lt_of_le ho.1 h,λt=>Go.Aft.eX h (ho.2 t)⟩
 |arr=>trivial
 |qm=>trivial
theorem dX.mono{P:Program}{n:Nat}{args:List LV}{H:GH}{R R':CE->GH->Prop}(h:dX P n args H R)(hr:∀e H',R e H'->R' e H'):dX P n args H R':=by
 intro G w vs h1 h2 h3;obtain⟨fn,tmps,lu,body,q1,q2⟩:=h G w vs h1 h2 h3;exact⟨fn,tmps,lu,body,q1,RoundIn.mono q2 λe w' ⟨ce,H',G',q,r⟩=>⟨ce,H',G',hr _ _ q,r⟩⟩
theorem EY.of{P:Program}{n:Nat}{args:List LV}{H:GH}{s:S}{dst:Option Nat}{K:KT}{Q:QT}{R:CE->GH->Prop}(h:dX P n args H R)(hk:∀v H',R (.ret v) H'->@AP K (({s with H:=H'}:S).put dst v))
  (hp:∀x H',R (.dY x) H'->Q.q (.dY x) {s with H:=H'}):@EY P n args H s dst K Q:=
 dX.mono h λce H' hR=>by
  cases ce with
  |ret v=>exact hk v H' hR
  |dY x=>exact hp x H' hR
theorem jl:∀a b:List bw,bu (a++b)=bu a++bu b
 |[],b=>by simp[bu]
 |x::a,b=>by simp[bu,jl a b]
def iV(n m:Nat):List LV:=[.ip [.yl n] 0,.gp m 0]
def mV(n m:Nat):LV:=.fn (.func 165) [] (iV n m)
def iN(e:bw):List LV:=(bn e).map λx=>lv (aQ x)
def nK(l:List bw):List LV:=(bu l).map λx=>lv (aQ x)
def BJ(n N m:Nat)(rows:List LV)(J:Nat->GH->Prop)(St:GH->Prop)(Pn:LV->GH->Prop)(f:FuncId)(cap:List LV)(neg:Bool)(e:bw):Prop:=
 ∀(i:Nat) (H:GH),H.obj m=some (.box [mV n m])->N<=H.next->J i H->(∃tl,rows.drop i=iN e++tl)->aF prog f ([lv (aQ e)]++cap) H (iterR N J St Pn neg (i+(bn e).length) H)
theorem Oj{n N m:Nat}{rows:List LV}{J:Nat->GH->Prop}{St:GH->Prop}{Pn:LV->GH->Prop}(hI:Iter prog n N rows J St Pn){e:bw}(hnm:n<N/\N<=m)(h:BJ n N m rows J St Pn 165 (iV n m) false e):BJ n N m rows J St Pn 167 [.gp m 0] true e:=by
 intro i H hm hN hj ht;have cc:=ar (p:=aY [2] [] []);refine aF.bD (ar (p:=aY [2] [] [])) func167 rfl call167 (by rw[ntmps167];simp) rfl λhf hw=>?_
 have hc:=h i H hm hN hj ht;simp[ai,iV]at hc;have hlt:=hw.lt hm;simp[ntmps167,results167,ai,hm,mV,iV];refine⟨⟨by omega,hlt⟩,EC.of hc (λv H2 hR=>?_) (λv H2 hR=>?_)⟩
 ·obtain⟨hs,hR⟩:=hR;rcases hR with⟨rfl,hR⟩|⟨rfl,hR⟩
  ·simp;exact λhz=>⟨H2,hz.drop (by rw[hs.next];exact Nat.le_refl _),hs,by simp[hR]⟩
  ·simp;exact λhz=>⟨H2,hz.drop (by rw[hs.next];exact Nat.le_refl _),hs,by simp[hR]⟩
 ·obtain⟨hs,hR⟩:=hR;have hnb:=hI.stP hR (λ_ _=>rfl) (by rw[hs.next];exact hN)
  simp;exact λhz=>⟨H2,hz.drop (by rw[hs.next];exact Nat.le_refl _),eX (by rw[hs.next];exact hN) hnb.1,hs,hR⟩
theorem HG{n N m:Nat}{rows:List LV}{J:Nat->GH->Prop}{St:GH->Prop}{Pn:LV->GH->Prop}(hI:Iter prog n N rows J St Pn)(hnm:n<N/\N<=m)(op en fold:Int)(name:ca)(aD:List bc)(kids:List bw)
  (ih:∀k∈kids,BJ n N m rows J St Pn 165 (iV n m) false k):BJ n N m rows J St Pn 165 (iV n m) false (.mk op name en fold aD kids):=by
 intro i H hm hN hj ht;obtain⟨tl,ht⟩:=ht;have cc:=ar (p:=aY [3] [] []);have hrow:rows[i]?=some (lv (aQ (.mk op name en fold aD kids))):=by
  have:(rows.drop i)[0]?=some (lv (aQ (.mk op name en fold aD kids))):=by rw[ht];simp[iN,bn]
  rw[List.getElem?_drop]at this;simpa using this
 have ht1:rows.drop (i+1)=nK kids++tl:=by
  rw[<-List.drop_drop,ht];simp[iN,nK,bn]
 refine aF.bD (ar (p:=aY [3] [] [])) func165 rfl call165 (by rw[ntmps165];simp[iV]) rfl λhf hw=>?_
 have hlt:=hw.lt hm;have hy:=hI.step hrow hN hw hj;simp[ai]at hy;simp[ntmps165,results165,ai,iV];refine EY.of hy (λv H1 hR=>?_) (λv H1 hR=>?_)
 rotate_left
 ·obtain⟨hs,hR⟩:=hR;have hnb:=hI.stP hR (λ_ _=>rfl) (by rw[hs.next];exact hN)
  simp;exact λhz=>⟨H1,hz.drop (by rw[hs.next];exact Nat.le_refl _),eX (by rw[hs.next];exact hN) hnb.1,hs,hR⟩
 ·obtain⟨hs,hR⟩:=hR;rcases hR with⟨rfl,hR⟩|⟨rfl,hR⟩
  ·simp;have hN1:N<=H1.next:=by rw[hs.next];exact hN
   have hm1:H1.obj m=some (.box [mV n m]):=by rw[hs.obj m hnm.2];exact hm
   have RM:=oJ kids 167 [.gp m 0] H1 (λj H'=>GH.same N H1 H'/\J (i+1+(bu (kids.take j)).length) H') (λH'=>GH.same N H1 H'/\St H') (λx H'=>GH.same N H1 H'/\Pn x H')
    (λj H' q=>by rw[q.1.next];exact Nat.le_refl _) (λH' q=>by rw[q.1.next];exact Nat.le_refl _)
    (λx H' q=>⟨by rw[q.1.next];exact Nat.le_refl _,eX (by rw[q.1.next];exact hN1) (hI.stP q.2 (λ_ _=>rfl) (by rw[q.1.next];exact hN1)).1⟩)
    (by simp[ct,LV.nb,hs.next,hlt]) (λj hj' H' q=>?_) ⟨GH.same.refl,by simpa[bu]using hR⟩
   ·simp at RM;refine⟨by rw[hs.next];exact hlt,EC.of RM (λv2 H2 qw=>?_) (λv2 H2 qw=>?_)⟩
    ·rcases qw with⟨rfl,hs2,qw⟩|⟨rfl,hs2,qw⟩
     ·have Tp:=hs.trans hs2;simp;refine λhz=>⟨H2,hz.drop (by rw[Tp.next];exact Nat.le_refl _),Tp,?_⟩
      have e:i+(bn (.mk op name en fold aD kids)).length=i+1+(bu kids).length:=by simp[bn];omega
      rw[e];simp[qw]
     ·have Tp:=hs.trans hs2;simp;exact λhz=>⟨H2,hz.drop (by rw[Tp.next];exact Nat.le_refl _),Tp,by simp[qw]⟩
    ·obtain⟨hs2,qw⟩:=qw;have Tp:=hs.trans hs2;have hnb:=hI.stP qw (λ_ _=>rfl) (by rw[Tp.next];exact hN)
     simp;exact λhz=>⟨H2,hz.drop (by rw[Tp.next];exact Nat.le_refl _),eX (by rw[Tp.next];exact hN) hnb.1,Tp,qw⟩
   ·obtain⟨qs,qj⟩:=q;have hsplit:kids=kids.take j++(kids[j]::kids.drop (j+1)):=by
     rw[<-List.drop_eq_getElem_cons hj',List.take_append_drop]
    have hall:bu kids=bu (kids.take j)++(bn kids[j]++bu (kids.drop (j+1))):=by
     conv=>lhs;rw[hsplit]
     rw[jl];simp only[bu]
    have fU:bu (kids.take (j+1))=bu (kids.take j)++bn kids[j]:=by
     rw[List.take_add_one,List.getElem?_eq_getElem hj',jl];simp[bu]
    have hdj:rows.drop (i+1+(bu (kids.take j)).length)=iN kids[j]++(nK (kids.drop (j+1))++tl):=by
     rw[<-List.drop_drop,ht1,nK,hall,List.map_append,List.append_assoc];rw[List.drop_append_of_le_length (by simp),List.drop_eq_nil_of_le (by simp)]
     simp[iN,nK]
    have hk:=Oj hI hnm (ih kids[j] (List.getElem_mem hj')) (i+1+(bu (kids.take j)).length) H' (by rw[qs.obj m hnm.2];exact hm1) (by rw[qs.next];exact hN1) qj ⟨_,hdj⟩
    refine hk.mono λce H2 qw=>?_
    obtain⟨s2,qw⟩:=qw;cases ce with
    |ret v=>
     rcases qw with⟨rfl,qw⟩|⟨rfl,qw⟩
     ·exact .inl ⟨rfl,qs.trans s2,by rw[fU,List.length_append,<-Nat.add_assoc];exact qw⟩
     ·exact .inr ⟨rfl,qs.trans s2,qw⟩
    |dY x=>exact⟨qs.trans s2,qw⟩
  ·simp;exact λhz=>⟨H1,hz.drop (by rw[hs.next];exact Nat.le_refl _),hs,by simp[hR]⟩
theorem Ai{n N m:Nat}{rows:List LV}{J:Nat->GH->Prop}{St:GH->Prop}{Pn:LV->GH->Prop}(hI:Iter prog n N rows J St Pn)(hnm:n<N/\N<=m):∀e:bw,BJ n N m rows J St Pn 165 (iV n m) false e
 |.mk op name en fold aD kids=>HG hI hnm op en fold name aD kids λk hk=>Ai hI hnm k
def ia(e:bw):LV:=.fn (.func 164) [] [.ip ((aQ e).map .d) 0]
theorem o8(e:bw):aC prog 98 [lv (aQ e)] (ia e):=by
 refine aC.body (ar (p:=aY [1] [] [])) func98 rfl call98 (by rw[ntmps98];simp) rfl λhf H=>?_
 simp[ntmps98,results98,ai,ia,LV.nb,ct]
theorem v8{n N:Nat}{e:bw}{J:Nat->GH->Prop}{St:GH->Prop}{Pn:LV->GH->Prop}(hI:Iter prog n N (iN e) J St Pn)(hnN:n<N)(H:GH)(hN:N<=H.next)(hj:J 0 H):
  aF prog 164 [.yl n,.ip ((aQ e).map .d) 0] H λce H'=>GH.same N H H'/\(match ce with
   |.ret v=>J (bn e).length H'\/ St H'
   |.dY x=>Pn x H'):=by
 have cc:=ar (p:=aY [2] [3] []);refine aF.bD (ar (p:=aY [2] [3] [])) func164 rfl call164 (by rw[ntmps164];simp) rfl λhf hw=>?_
 simp[ntmps164,results164,ai,GH.au,GH.aq,GH.cT];have wI:∀m,m<N->(H.add (.box [mV n H.next])).obj m=H.obj m:=λm hm=>by rw[GH.au,if_neg (by omega)]
 have hc:=Ai hI ⟨hnN,hN⟩ e 0 (H.add (.box [mV n H.next])) (by rw[GH.au,if_pos rfl]) (by rw[GH.aq];omega) (hI.stJ hj wI (by rw[GH.aq];omega)) ⟨[],by simp⟩
 simp[ai,iV,mV]at hc;have LO:∀H2,GH.same N (H.add (.box [mV n H.next])) H2->gD H2->(∀m o,m<N->H2.obj m=some o->o.nb N)->Drop H H2 (H2.cut H.next)/\GH.same N H (H2.cut H.next):=λH2 hs hz hnb=>by
  refine⟨hz.VY (by rw[hs.next,GH.aq];omega) (Nat.le_refl _) λm o hm ho=>?_,rfl,λm hm=>?_⟩
  ·by_cases hmN:m<N
   ·refine .inr ?_;have:=hnb m o hmN ho;exact GO.eX hN this
   ·rw[hs.obj m (by omega),GH.au,if_neg (by omega)]at ho
    exact .inl ho
  ·by_cases LG:m<H.next
   ·rw[GH.wT LG,hs.obj m hm,GH.au,if_neg (by omega)]
   ·rw[GH.L4 (by omega),hw.none m (by omega)]
 refine⟨by omega,EC.of hc (λv H2 hR=>?_) (λv H2 hR=>?_)⟩
 ·obtain⟨hs,hR⟩:=hR;simp;refine λhz=>?_
  rcases hR with⟨_,hR⟩|⟨_,hR⟩
  ·obtain⟨q1,q2⟩:=LO H2 hs hz (hI.nbJ hR);exact⟨_,q1,q2,.inl (hI.stJ hR (λm hm=>GH.wT (by omega)) (by rw[GH.vr];exact hN))⟩
  ·obtain⟨q1,q2⟩:=LO H2 hs hz (hI.nbS hR);exact⟨_,q1,q2,.inr (hI.stS hR (λm hm=>GH.wT (by omega)) (by rw[GH.vr];exact hN))⟩
 ·obtain⟨hs,hR⟩:=hR;simp;refine λhz=>?_
  obtain⟨q1,q2⟩:=LO H2 hs hz (hI.nbP hR);have:=hI.stP hR (H':=H2.cut H.next) (λm hm=>GH.wT (by omega)) (by rw[GH.vr];exact hN)
  exact⟨_,q1,eX (by rw[GH.vr];exact hN) this.1,q2,this.2⟩
def wS(r:Option Nat)(f:FuncId)(bJ:Nat->Kd):Cx:=⟨bT bf,λ_=>none,bJ,λ_ _=>none,⟨r,some f⟩⟩
@[simp] theorem cxF_ty {r:Option Nat} {f:FuncId} {p:Nat->Kd}:(wS r f p).ty=bT bf:=rfl
@[simp] theorem cxF_eqt {r:Option Nat} {f:FuncId} {p:Nat->Kd} (t:TypeId):(wS r f p).bP t=none:=rfl
@[simp] theorem cxF_pub {r:Option Nat} {f:FuncId} {p:Nat->Kd} (t:Nat):(wS r f p).bJ t=p t:=rfl
@[simp] theorem cxF_spec {r:Option Nat} {g:FuncId} {p:Nat->Kd} (f:FuncId) (a:List LV):(wS r g p).spec f a=none:=rfl
@[simp] theorem cxF_rd {r:Option Nat} {f:FuncId} {p:Nat->Kd}:(wS r f p).rd = ⟨r,some f⟩:=rfl
theorem fZ{r:Option Nat}{f:FuncId}{p:Nat->Kd}:(wS r f p).ok prog:=⟨uO,λT ks h=>(by cases h),λT ks h=>(by cases h),λf args pre v h=>(by cases h),(by kernel_rfl)⟩
def Qo(x:LP)(n:Nat)(H0:GH)(R:CE->GH->Prop):AE->S->Prop
 |.normal,s=>gD s.H->iw x n H0 R s none
 |.ret,s=>gD s.H->iw x n H0 R s (some .ret)
 |.exit i,s=>gD s.H->iw x n H0 R s (some (.exit i))
 |.goto l,s=>gD s.H->iw x n H0 R s (some (.goto l))
 |.dY v,s=>gD s.H->s.df=[]/\∃H',Drop H0 s.H H'/\v.nb H'.next/\R (.dY v) H'
attribute [simp] Qo iw
theorem dX.ofN{P:Program}{c:Nat->Cx}{n:Nat}{x:LP}(hc:∀l,(c l).ok P)(hrd:∀l,(c l).rd=⟨some l,some x.f⟩){args:List LV}{H:GH}{R:CE->GH->Prop}(hn:H.obj n=some (x.go .ready none))(hf:∃fn,P.funcs[x.f]?=some fn)(hl:args.length=x.ps.size)(hps:∀p∈x.ps.toList,p<x.nt)
  (h:gD H->∀l,@EV P (c l) ⟨x.lu⟩ ⟨mr x.env (x.ps.toList.zip args),uF,H,x.nt,[]⟩ ⟨@TH ⟨λs1=>s1.H.obj n=some (x.go .ready none)/\@AW P (c l).rd ⟨x.body⟩ {s1 with H:=s1.H.set n (x.go .busy none)} ⟨Qo x n H R⟩⟩ ⟨λ_ _=>False⟩⟩):dX P n args H R:=by
 intro G w vs hM pO hargs;have hw:gD H:=⟨λn hn=>by
  cases ho:H.obj n with
  |none=>rfl
  |some o=>have:=(hM.gX n o ho).1;omega,λn o ho=>BX (hM.gX n o ho).2⟩
 refine dX.U7 hn hf hl hps (λ_ l=>?_) G w vs hM pO hargs
 have:=EV.sound (hc l) (h hw l);rw[<-hrd l];refine eV.mono this λae s q=>?_
 cases ae with
 |normal=>
  refine⟨q.1,?_⟩;exact eV.Q0 q.2 λae s' hz q'=>by cases ae<;>exact q' hz
 |_=>exact q
theorem Er(d:TJ):aC prog 94 [lv (ez d)] (.d (.k (.string d.name))):=by
 refine aC.body (ar (p:=aY [1] [] [])) func94 rfl call94 (by rw[ntmps94];simp) rfl λhf H=>?_
 simp[ntmps94,results94,ez,ai]
theorem NW(l:List TJ)(hl:l.length<=1000):aC prog 93 [sl (l.map ez),.fn (.func 94) [] []] (sl ((l.map (·.name)).map rS)):=by
 have cc:=aP;refine aC.body aP func93 rfl call93 (by rw[ntmps93];simp) rfl λhf H=>?_
 simp[ntmps93,results93]at hf|-;refine AW.aU cc (λa:Nat×LV×GH=>⟨[(1,.fn (.func 94) [] []),(5,a.2.1),(8,.d (.sl (l.map ez))),(9,aH l.length),(10,aH a.1)],[],a.2.2⟩) (λa=>l.length-a.1) (λa=>a.1<=l.length/\B3 9 1 H a.2.1 (((l.take a.1).map (·.name)).map rS) a.2.2) (0,.d (.k (.slice none 0 0)),H) ⟨⟨by simp,.nil⟩,by simp⟩ ?_
 rintro⟨i,x,H'⟩ ⟨hi,aA⟩;simp only at hi aA;simp;refine⟨λh=>?_,λh=>?_⟩
 ·have hd:=Er l[i];simp[ez,ai]at hd;simp[h,List.getElem?_eq_getElem h,ez,ai,aA.plain.all];refine EC.aJ hd ?_;simp[aA.plain.all];refine eE.BE rS ((l.take i).map (·.name)) [l[i].name] F9 rfl P6 (by simp) (λ_=>rfl) (x:=x) (by simp) aA (by simp[rS,rowsOf]) (by simp) (by simp;omega) (by simp) λx' H2 aG=>?_
  have ht:(l.take i).map (·.name)++[l[i].name]=(l.take (i+1)).map (·.name):=by rw[<-aR h,List.map_append];rfl
  rw[ht]at aG;simp[aG.plain.all,aG.only,aB h hf.1];exact NX.go (i+1,x',H2) (by simp;omega) ⟨h,aG⟩ (by simp[aG.only,aG.plain.all,LV.only])
 ·have:i=l.length:=by omega
  subst this;rw[List.take_length]at aA;have hz:=aA.fz;simp[aA.plain.all,hz.1];exact hz.2
structure kY(es:List (Value×LV))(M:Nat->Bool):Prop where
 get:∀k:Nat,bz (.int .i64 k) es=if M k=true then some (.d (.k (.bool true)))else none
 key:∀(a:Value) (b:LV),(a,b)∈es->(KK.sc (Sc.int .i64)).has a=true
 nb:∀n,ct n (es.map (·.2))
 nat:∃ks:List Nat,ks.Nodup/\es.map (·.1)=ks.map λk:Nat=>Value.int .i64 k
theorem C9(k:Nat)(v:LV):∀(es:List (Value×LV)) (ks:List Nat),es.map (·.1)=ks.map (λk:Nat=>Value.int .i64 k)->(cg (.int .i64 k) v es).map (·.1)=(if k∈ks then ks else ks++[k]).map λk:Nat=>Value.int .i64 k
 |[],[],_=>by simp[cg]
 |[],j::ks,h=>by simp at h
 |e::es,[],h=>by simp at h
 |(a,b)::es,j::ks,h=>by
  simp only[List.map_cons,List.cons.injEq]at h;obtain⟨rfl,h⟩:=h;have ih:=C9 k v es ks h;simp only[cg,gh];by_cases e:(k:Int)=j
  ·have e':k=j:=by omega
   subst e';simp[h]
  ·have e':¬k=j:=by omega
   have h1:(k∈j::ks)=(k∈ks):=by simp[e']
   simp only[e,decide_false,Bool.false_eq_true,if_false,List.map_cons,ih,h1]
   split<;>rfl
theorem kY.put{es:List (Value×LV)}{M:Nat->Bool}(h:kY es M)(k:Nat):kY (cg (.int .i64 k) (.d (.k (.bool true))) es) (fI M k):=by
 have hg:∀(es:List (Value×LV)),(∀(a:Value) (b:LV),(a,b)∈es->(KK.sc (Sc.int .i64)).has a=true)->∀j:Nat,bz (.int .i64 j) (cg (.int .i64 k) (.d (.k (.bool true))) es)=if j=k then some (.d (.k (.bool true)))else bz (.int .i64 j) es:=by
  intro es
  induction es with
  |nil=>
   intro _ j;simp only[cg,bz,gh];by_cases e:j=k
   ·subst e;simp
   ·have e2:¬(j:Int)=k:=by omega
    simp[e,e2]
  |cons a es ih=>
   obtain⟨a,b⟩:=a;intro hk j;have ha:=hk a b (by simp)
   cases a with
   |int kk n=>
    have:kk=.i64:=by simpa[KK.has,Sc.has,eq_comm]using ha
    subst this;simp only[cg,gh];by_cases e1:(k:Int)=n
    ·simp only[e1,decide_true,if_true,bz,gh];by_cases e2:j=k
     ·subst e2;simp[e1]
     ·have:¬(j:Int)=n:=by omega
      simp[e2,this]
    ·simp only[e1,decide_false,Bool.false_eq_true,if_false,bz,gh];by_cases e3:(j:Int)=n
     ·have:¬j=k:=by omega
      simp[e3,this]
     ·simp only[e3,decide_false,Bool.false_eq_true,if_false];exact ih (λa b hab=>hk a b (by simp[hab])) j
   |_=>simp[KK.has,Sc.has]at ha
 have hm:∀(es:List (Value×LV)) (a:Value) (b:LV),(a,b)∈cg (.int .i64 k) (.d (.k (.bool true))) es->(a=.int .i64 k/\b=.d (.k (.bool true)))\/ (a,b)∈es:=by
  intro es
  induction es with
  |nil=>intro a b hab;simp[cg]at hab;exact .inl hab
  |cons x es ih=>
   intro a b hab;simp only[cg]at hab
   split at hab
   ·rcases List.mem_cons.1 hab with q|q
    ·cases q;exact .inl ⟨rfl,rfl⟩
    ·exact .inr (by simp[q])
   ·rcases List.mem_cons.1 hab with q|q
    ·exact .inr (by simp[q])
    ·rcases ih a b q with r|r
     ·exact .inl r
     ·exact .inr (by simp[r])
 have hnb:∀n (es:List (Value×LV)),ct n (es.map (·.2))↔∀a b,(a,b)∈es->b.nb n:=by
  intro n es
  induction es with
  |nil=>simp[ct]
  |cons x es ih=>
   simp only[List.map_cons,ct,ih,List.mem_cons];constructor
   ·rintro⟨h1,h2⟩ a b (q|q)
    ·rw[<-q]at h1;exact h1
    ·exact h2 a b q
   ·exact λh=>⟨h x.1 x.2 (.inl rfl),λa b q=>h a b (.inr q)⟩
 refine⟨λj=>?_,λa b hab=>?_,λn=>?_,?_⟩
 rotate_left 3
 ·obtain⟨ks,h1,h2⟩:=h.nat;refine⟨if k∈ks then ks else ks++[k],?_,C9 k _ es ks h2⟩
  split
  ·exact h1
  ·rename_i q;rw[List.nodup_append];exact⟨h1,by simp,λa ha b hb=>by simp at hb;subst hb;intro z;subst z;exact q ha⟩
 ·rw[hg es h.key j,h.get j];unfold fI;by_cases e:j=k<;>simp[e]
 ·rcases hm es a b hab with⟨rfl,_⟩|q
  ·rfl
  ·exact h.key a b q
 ·rw[hnb];intro a b hab;rcases hm es a b hab with⟨_,rfl⟩|q
  ·simp[LV.nb]
  ·exact(hnb n es).1 (h.nb n) a b q
theorem kY.nil:kY [] (λ_=>false):=⟨λk=>rfl,λa b h=>absurd h List.not_mem_nil,λn=>trivial,[],by simp,rfl⟩
def qf(e:bw):Prop:=e.op=2\/ e.op=3
def LookR(S:Nat->Nat->Prop)(mo d:Nat)(M:Nat->Bool)(H:GH):CE->GH->Prop:=λce H'=>(∃v,ce=.ret v)/\∃es' M',H'=H.set mo (.map es')/\kY es' M'/\sg S M M' d
def AF(p:Prog)(n no nl:Nat):List LV:=[.ip ((ax p).map .d) 0,.ip [.gp n 0] 0,.gp no 0,.gp nl 0]
def Dh(p:Prog)(n no nl:Nat):LV:=.fn (.func 169) [] (AF p n no nl)
def zG(p:Prog):Prop:=∀(i:Nat) (h:i<p.aj.length),∀e∈bn p.aj[i].exp,qf e->0<=idx (an p) e.name
theorem GH.iH{H:GH}{n:Nat}{o:GO}(h:H.obj n=some o):H.set n o=H:=by
 obtain⟨f,k⟩:=H;simp only[GH.set]at h|-
 congr 1;funext m;simp only[ew];split
 ·rename_i e;subst e;exact h.symm
 ·rfl
theorem GH.set_comm{H:GH}{n m:Nat}{a b:GO}(h:n≠m):(H.set n a).set m b=(H.set m b).set n a:=by
 simp only[GH.set];congr 1;funext k;simp only[ew]
 split
 ·rename_i e;subst e;rw[if_neg (Ne.symm h)]
 ·rfl
theorem gD.set{H:GH}(h:gD H){n:Nat}{o:GO}(hn:n<H.next)(ho:o.nb H.next):gD (H.set n o):=by
 refine⟨λm hm=>?_,λm o' ho'=>?_⟩
 ·have hm':H.next<=m:=hm;rw[GH.ay,if_neg (by omega)];exact h.none m hm'
 ·rw[GH.ay]at ho'
  split at ho'
  ·cases ho';exact ho
  ·exact h.nb m o' ho'
theorem B1{H0 H H':GH}(h1:H'.next<=H.next)(h2:∀m,m<H'.next->H'.obj m=H.obj m)(h3:gD H')(h4:H0.next<=H'.next):Drop H0 H H':=⟨h1,h4,h2,h3.none,λn o ho=>.inr (h3.nb n o ho)⟩
theorem NU(p:Prog)(hp:zG p)(n m1 m2 m3 no nl mo:Nat)(hne:m1≠mo/\m2≠mo/\m3≠mo)(ahead nodes:Int):∀(u:Nat) (M:Nat->Bool) (d:Nat) (hd:d<p.aj.length) (H:GH) (es:List (Value×LV)),Em p.aj.length M=u->
  BM H n m1 m2 m3 p.az (an p) ahead nodes->H.obj no=some (.box [.gm mo])->H.obj nl=some (.box [Dh p n no nl])->H.obj mo=some (.map es)->kY es M->
  aF prog 169 ([aH d]++AF p n no nl) H (LookR (fJ p) mo d M H):=by
 intro u
 induction u using Nat.strongRecOn with
 |_ u ih=>
  intro M d hd H es hu hs hno hnl hmo hM;have cc:=fZ (r:=none) (f:=169) (p:=aY [] [] []);have ccR:∀l,(wS (some l) 169 (aY [] [] [])).ok prog:=λl=>fZ
  refine aF.bD (fZ (r:=none) (f:=169) (p:=aY [] [] [])) func169 rfl call169 (by rw[ntmps169];simp[AF]) rfl λhf hw=>?_
  have AZ:=o8 p.aj[d].exp;simp[ai]at AZ;simp[ntmps169,results169,AF,ax,ez,ai,hd,List.getElem?_eq_getElem hd];refine EC.aJ AZ ?_;simp;refine AW.at (c:=wS none 169 (aY [] [] [])) ⟨[(1,.ip ((ax p).map .d) 0),(2,.ip [.gp n 0] 0),(3,.gp no 0),(4,.gp nl 0),(14,ia p.aj[d].exp)],[],H⟩ (by simp[ax,ia,LV.only,ai]) ?_
  have a0:=hw.lt hs.sc;have a1:=hw.lt hno;have a2:=hw.lt hnl;have a3:=hw.lt hmo;have a4:=hw.lt hs.o1;have a5:=hw.lt hs.o2;have a6:=hw.lt hs.o3;have ne:=hs.ne;have b1:n≠mo:=λe=>by have:=hs.sc;rw[e,hmo]at this;cases this
  have b2:no≠mo:=λe=>by rw[e,hmo]at hno;cases hno
  have b3:nl≠mo:=λe=>by rw[e,hmo]at hnl;cases hnl
  refine eV.rangeFunc rfl rfl (f:=164) (first:=[]) (cap:=[.ip ((aQ p.aj[d].exp).map .d) 0]) (by simp[ia]) (by simp[ia])
   [(1,.ip ((ax p).map .d) 0),(2,.ip [.gp n 0] 0),(3,.gp no 0),(4,.gp nl 0)] (by simp[mS]) (by simp[mS,LV.nb,ct,a0,a1,a2]) (by simp[ct,LV.nb]) ?_
  simp only[LS.Cd,List.nil_append,List.singleton_append];generalize hx:LP.mk _ _ _ _ _ _ _=x;have IA:x.f=169:=by rw[<-hx]
  have Fa:x.d=H.next:=by rw[<-hx]
  have dc:∀t,(x.env t).nb (H.next+2):=by
   rw[<-hx];intro t;refine yZ ?_ t;simp[mS,LV.nb,ct];omega
  obtain⟨J,hJ⟩:∃J:Nat->GH->Prop,J=λi H'=>∃es' M',H'.obj (H.next+1)=some (x.go .ready none)/\H'.obj H.next=some .qm/\(∀m,m<H.next->m≠mo->H'.obj m=H.obj m)/\H'.obj mo=some (.map es')/\kY es' M'/\
   iF (fJ p) M M' d (λk=>∃e∈(bn p.aj[d].exp).take i,qf e/\idx (an p) e.name=(k:Int)):=⟨_,rfl⟩
  have hI:Iter prog (H.next+1) (H.next+2) (iN p.aj[d].exp) J (λ_=>False) (λ_ _=>False):=by
   refine⟨λ{i H1 H2} hj lH _=>?_,λh=>h.elim,λh=>h.elim,λ{i H1} hj m o hm ho=>?_,λh=>h.elim,λh=>h.elim,?_⟩
   ·rw[hJ]at hj|-;obtain⟨es',M',q1,q2,q3,q4,q5,q6⟩:=hj;exact⟨es',M',by rw[lH _ (by omega)];exact q1,by rw[lH _ (by omega)];exact q2,λm hm hne=>by rw[lH _ (by omega)];exact q3 m hm hne,by rw[lH _ (by omega)];exact q4,q5,q6⟩
   ·rw[hJ]at hj;obtain⟨es',M',q1,q2,q3,q4,q5,q6⟩:=hj;by_cases e1:m=H.next+1
    ·subst e1;rw[q1]at ho;cases ho;exact⟨by rw[Fa];omega,dc⟩
    ·by_cases e2:m=H.next
     ·subst e2;rw[q2]at ho;cases ho;trivial
     ·by_cases e3:m=mo
      ·subst e3;rw[q4]at ho;cases ho;exact q5.nb _
      ·rw[q3 m (by omega) e3]at ho
       exact GO.eX (by omega) (hw.nb m o ho)
   ·intro i H1 r hr hN sP hj;rw[hJ]at hj;obtain⟨es',M',q1,q2,q3,q4,q5,q6⟩:=hj;obtain⟨e,he,rfl⟩:∃e,(bn p.aj[d].exp)[i]?=some e/\r=lv (aQ e):=by
     simp only[iN,List.getElem?_map,Option.map_eq_some_iff]at hr;obtain⟨e,h1,h2⟩:=hr;exact⟨e,h1,h2.symm⟩
    refine dX.ofN (c:=λl=>wS (some l) 169 (aY [] [] [])) ccR (λl=>by simp[IA]) q1 ⟨_,by rw[IA];exact func169⟩ (by rw[<-hx];rfl) (by rw[<-hx];simp) λhz l=>?_
    have xa:=(congrArg LP.lu hx).symm;have xb:=(congrArg LP.body hx).symm;have xe:=(congrArg LP.env hx).symm;have xp:=(congrArg LP.ps hx).symm;have xn:=(congrArg LP.nt hx).symm;dsimp only at xa xb xe xp xn;rw[xa,xb,xe,xp,xn]
    clear xa xb xe xp xn hx
    simp[ai,mr];refine⟨q1,?_⟩;generalize jP:x.go .busy none=ob;have c0:=q3 n (by omega) b1
    have c1:=q3 no (by omega) b2
    have c2:=q3 nl (by omega) b3
    have c3:∀m,m<H.next->(H1.set (H.next+1) ob).obj m=H1.obj m:=λm hm=>by rw[GH.ay,if_neg (by omega)]
    have vm:H.next+1<H1.next:=by omega
    have fU:(bn p.aj[d].exp).take (i+1)=(bn p.aj[d].exp).take i++[e]:=by
     rw[List.take_add_one,he];rfl
    have M6:e∈bn p.aj[d].exp:=List.mem_of_getElem? he;have hsame:(H1.set (H.next+1) ob).set (H.next+1) (x.go .ready none)=H1:=by rw[GH.set_set,GH.iH q1]
    refine AW.ev (ccR l) ?_;simp;refine⟨λn2 n3 qh=>⟨⟨.busy,none,by rw[GH.aX,jP]⟩,H1,?_,GH.same.refl,?_⟩,λhref=>?_⟩
    ·rw[hsame];exact sP.drop (Nat.le_refl _)
    ·rw[hJ];refine⟨es',M',q1,q2,q3,q4,q5,q6.same λk hk=>?_⟩
     obtain⟨e',h1,h2,h3⟩:=hk;rw[fU,List.mem_append]at h1;rcases h1 with h1|h1
     ·exact .inl ⟨e',h1,h2,h3⟩
     ·simp only[List.mem_singleton]at h1;subst h1;rcases h2 with h2|h2
      ·exact absurd h2 n2
      ·exact absurd h2 n3
    have hr:qf e:=by unfold qf;omega
    have hix:=hp d hd e M6 hr;have hixl:=nM (an p) e.name;obtain⟨kn,hkn⟩:∃kn:Nat,idx (an p) e.name=(kn:Int):=⟨(idx (an p) e.name).toNat,by omega⟩
    have jQ:kn<p.aj.length:=by rw[hkn]at hixl;simp[an]at hixl;exact hixl
    have hnum:HF (an p) e.name=(kn:Int):=by unfold HF;rw[if_neg (by omega),hkn]
    have hstep:fJ p d kn:=⟨hd,e,M6,hr,hkn⟩;have A4:∀k:Nat,(∃e∈(bn p.aj[d].exp).take (i+1),qf e/\idx (an p) e.name=(k:Int))->(∃e∈(bn p.aj[d].exp).take i,qf e/\idx (an p) e.name=(k:Int))\/ k=kn:=λk hk=>by
     obtain⟨e',h1,h2,h3⟩:=hk;rw[fU,List.mem_append]at h1;rcases h1 with h1|h1
     ·exact .inl ⟨e',h1,h2,h3⟩
     ·simp only[List.mem_singleton]at h1;subst h1;exact .inr (by omega)
    have o0:(H1.set (H.next+1) ob).obj n=some (scp [.gm m1,.gm m2,.gm m3] ahead nodes):=by rw[c3 _ a0,c0];exact hs.sc
    have o1:(H1.set (H.next+1) ob).obj m2=some (.map (dR (an p) 0)):=by rw[c3 _ a5,q3 _ a5 hne.2.1];exact hs.o2
    have o2:(H1.set (H.next+1) ob).obj no=some (.box [.gm mo]):=by rw[c3 _ a1,c1];exact hno
    have o3:(H1.set (H.next+1) ob).obj nl=some (.box [Dh p n no nl]):=by rw[c3 _ a2,c2];exact hnl
    have o4:(H1.set (H.next+1) ob).obj mo=some (.map es'):=by rw[c3 _ a3];exact q4
    refine AW.draw (ccR l) [] (.q 5<|.q 0<|.q 1<|.q 2<|.q 3<|.q 4<|.q 6<|.q 7<|.q 8<|.done) (by kernel_rfl) ?_
    have hkey:=eq_true q5.key;have hlk:∀m,m<H.next->m<(H1.set (H.next+1) ob).next:=λm hm=>by rw[GH.aL];omega
    cases hmk:M' kn with
    |true=>
     simp[o0,o1,o2,o3,o4,scp,pE,jZ,hnum,q5.get,hmk,hkey];refine λqh=>⟨⟨.busy,none,by rw[GH.aX,jP]⟩,H1,?_,GH.same.refl,?_⟩
     ·rw[hsame];exact sP.drop (Nat.le_refl _)
     ·rw[hJ];exact⟨es',M',q1,q2,q3,q4,q5,q6.same λk hk=>(A4 k hk).imp id λe=>by rw[e];exact hmk⟩
    |false=>
     have OD:∀(X:GO) (m:Nat),m<H.next->m≠mo->((H1.set (H.next+1) ob).set mo X).obj m=H.obj m:=λX m hm hne=>by rw[GH.ay,if_neg hne,c3 m hm,q3 m hm hne]
     have o5:∀X:GO,((H1.set (H.next+1) ob).set mo X).obj nl=some (.box [Dh p n no nl]):=λX=>by rw[OD X _ a2 b3];exact hnl
     have hput:=q5.put kn;have hlt:Em p.aj.length (fI M' kn)<u:=by
      have h1:=qA (n:=p.aj.length) jQ hmk;have h2:=F7 (n:=p.aj.length) q6.sub;omega
     have gG:=ih _ hlt (fI M' kn) kn jQ ((H1.set (H.next+1) ob).set mo (.map (cg (.int .i64 kn) (.d (.k (.bool true))) es'))) _ rfl
      ⟨by rw[OD _ _ a0 b1];exact hs.sc,by rw[OD _ _ a4 hne.1];exact hs.o1,by rw[OD _ _ a5 hne.2.1];exact hs.o2,by rw[OD _ _ a6 hne.2.2];exact hs.o3⟩
      (by rw[OD _ _ a1 b2];exact hno) (o5 _) GH.aX hput
     have PM:∀X m,m<H.next->m<((H1.set (H.next+1) ob).set mo X).next:=λX m hm=>by rw[GH.aL,GH.aL];omega
     simp[AF,ax]at gG;simp[o0,o1,o2,o3,o4,o5,scp,pE,jZ,hnum,q5.get,hmk,hkey,Dh,AF,ax];refine⟨⟨PM _ _ a0,PM _ _ a1,PM _ _ a2⟩,EC.of gG (λv H2 hR=>?_) (λv H2 hR=>?_)⟩
     ·obtain⟨_,es2,M2,uJ,k1,k2⟩:=hR;rw[GH.set_set]at uJ;subst uJ;simp;have vm:H.next+1≠mo:=by omega
      have DB:((H1.set (H.next+1) ob).set mo (.map es2)).set (H.next+1) (x.go .ready none)=H1.set mo (.map es2):=by
       rw[GH.set_comm (Ne.symm vm),GH.set_set,GH.iH q1]
      have OB:gD (H1.set mo (.map es2)):=sP.set (by omega) (k1.nb _)
      refine λqh=>⟨⟨.busy,none,by rw[GH.ay,if_neg vm,GH.aX,jP]⟩,H1.set mo (.map es2),?_,⟨rfl,λm hm=>by rw[GH.ay,if_neg (by omega)]⟩,?_⟩
      ·rw[DB];exact OB.drop (Nat.le_refl _)
      ·rw[hJ];refine⟨es2,M2,by rw[GH.ay,if_neg vm];exact q1,by rw[GH.ay,if_neg (by omega)];exact q2,λm hm hne'=>by rw[GH.ay,if_neg hne'];exact q3 m hm hne',GH.aX,k1,q6.step hstep k2 A4⟩
     ·obtain⟨⟨_,q⟩,_⟩:=hR;cases q
  have hj0:J 0 ((H.add .qm).add (x.go .ready none)):=by
   rw[hJ];refine⟨es,M,by rw[GH.au,GH.aq,if_pos rfl],by rw[GH.au,GH.aq,if_neg (by omega),GH.au,if_pos rfl],λm hm _=>by rw[GH.au,GH.aq,if_neg (by omega),GH.au,if_neg (by omega)],
    by rw[GH.au,GH.aq,if_neg (by omega),GH.au,if_neg (by omega)];exact hmo,hM,iF.start λk hk=>?_⟩
   obtain⟨e,he,_⟩:=hk;simp at he
  have hall:=v8 hI (by omega) ((H.add .qm).add (x.go .ready none)) (by rw[GH.aq,GH.aq];omega) hj0
  refine hall.mono λce H2 hR=>?_
  obtain⟨hs2,hR⟩:=hR;cases ce with
  |dY x=>exact hR.elim
  |ret v=>
   rcases hR with hR|hR
   ·rw[hJ]at hR;obtain⟨es2,M2,q1,q2,q3,q4,q5,q6⟩:=hR;refine⟨.ready,none,q1,by simp,?_⟩
    simp[xO,Fa];have hne1:H.next≠H.next+1:=by omega
    refine λhz=>⟨by rw[GH.ay,if_neg hne1];exact q2,H.set mo (.map es2),?_,⟨_,rfl⟩,es2,M2,rfl,q5,q6.end λk hk=>?_⟩
    ·have OB:=hw.set (o:=.map es2) a3 (q5.nb _);refine B1 ?_ (λm hm=>?_) OB (by rw[GH.aL];exact Nat.le_refl _)
     ·have h1:=hs2.next;simp only[GH.aq]at h1;simp only[GH.aL];omega
     ·have hm':m<H.next:=hm;simp only[lM,GH.ay];rw[if_neg (show¬m=H.next by omega),if_neg (show¬m=H.next+1 by omega)]
      split
      ·rename_i e;subst e;exact q4.symm
      ·rename_i e;exact(q3 m hm' e).symm
    ·obtain⟨h1,e,h2,h3,h4⟩:=hk;exact⟨e,by rw[List.take_length];exact h2,h3,h4⟩
   ·exact hR.elim
end Go.Aft
end
section
set_option maxRecDepth 20000
namespace Go.Aft
open Go.Proofs.Tryz
open Classical in
noncomputable def py (p:Prog) (d:Nat):Nat->Bool:=λk=>decide (Path (fJ p) d k)
theorem kY.congr{es:List (Value×LV)}{M M':Nat->Bool}(h:kY es M)(he:∀k,M k=M' k):kY es M':=by
 have:M=M':=funext he;rw[<-this];exact h
theorem gD.add{H:GH}(h:gD H){o:GO}(ho:o.nb (H.next+1)):gD (H.add o):=by
 refine⟨λm hm=>?_,λm o' ho'=>?_⟩
 ·have hm':H.next+1<=m:=hm;rw[GH.au,if_neg (by omega)];exact h.none m (by omega)
 ·rw[GH.au]at ho'
  split at ho'
  ·cases ho';exact ho
  ·exact GO.eX (Nat.le_succ _) (h.nb m o' ho')
theorem tN(p:Prog)(hp:zG p)(n m1 m2 m3:Nat)(ahead nodes:Int)(d:Nat)(hd:d<p.aj.length)(H:GH)(hs:BM H n m1 m2 m3 p.az (an p) ahead nodes):
  aF prog 100 [.gp n 0,lv (ax p),aH d] H λce H'=>∃es,ce=.ret (.gm H.next)/\H'=H.add (.map es)/\kY es (py p d):=by
 have cc:=ar (p:=aY [3,4] [7,8] []);refine aF.bD (ar (p:=aY [3,4] [7,8] [])) func100 rfl call100 (by rw[ntmps100];simp) rfl λhf hw=>?_
 have a0:=hw.lt hs.sc;have a4:=hw.lt hs.o1;have a5:=hw.lt hs.o2;have a6:=hw.lt hs.o3;have ne:=hs.ne;have g1:∀(X Y Z:GO),(((H.add X).add Y).add Z).obj H.next=some X:=λX Y Z=>by rw[GH.au,if_neg (by simp only[GH.aq];omega),GH.au,if_neg (by simp only[GH.aq];omega),GH.au,if_pos rfl]
 have g2:∀(X Y Z:GO),(((H.add X).add Y).add Z).obj (H.next+1)=some Y:=λX Y Z=>by rw[GH.au,if_neg (by simp only[GH.aq];omega),GH.au,if_pos (by simp only[GH.aq])]
 have g3:∀(X Y Z:GO),(((H.add X).add Y).add Z).obj (H.next+2)=some Z:=λX Y Z=>by rw[GH.au,if_pos (by simp only[GH.aq])]
 have g4:∀(X Y Z:GO) (m:Nat),m<H.next->(((H.add X).add Y).add Z).obj m=H.obj m:=λX Y Z m hm=>by
  rw[GH.au,if_neg (by simp only[GH.aq];omega),GH.au,if_neg (by simp only[GH.aq];omega),GH.au,if_neg (by omega)]
 have s1:∀(X Y:GO) (Y':GO),((H.add X).add Y).set (H.next+1) Y'=(H.add X).add Y':=λX Y Y'=>by
  have:=GH.cT (H:=H.add X) (a:=Y) (b:=Y');simpa[GH.aq]using this
 have s2:∀(X Y Z:GO) (Z':GO),(((H.add X).add Y).add Z).set (H.next+2) Z'=((H.add X).add Y).add Z':=λX Y Z Z'=>by
  have:=GH.cT (H:=(H.add X).add Y) (a:=Z) (b:=Z');simpa[GH.aq]using this
 have h1:∀(X Y:GO),((H.add X).add Y).obj (H.next+1)=some Y:=λX Y=>by rw[GH.au,if_pos (by simp only[GH.aq])]
 simp[ntmps100,results100,ax,GH.aq,s1,s2,h1,g1,g2,g3];refine⟨by omega,by omega,?_⟩
 have hl:=NU p hp n m1 m2 m3 (H.next+1) (H.next+1+1) H.next ⟨by omega,by omega,by omega⟩ ahead nodes _ (λ_=>false) d hd (((H.add (.map [])).add (.box [.gm H.next])).add (.box [Dh p n (H.next+1) (H.next+1+1)])) [] rfl
  ⟨by rw[g4 _ _ _ _ a0];exact hs.sc,by rw[g4 _ _ _ _ a4];exact hs.o1,by rw[g4 _ _ _ _ a5];exact hs.o2,by rw[g4 _ _ _ _ a6];exact hs.o3⟩ (g2 _ _ _) (g3 _ _ _) (g1 _ _ _) kY.nil
 simp[AF,Dh,ax]at hl;refine EC.of hl (λv H2 hR=>?_) (λv H2 hR=>?_)
 ·obtain⟨_,es2,M2,rfl,k1,k2⟩:=hR;simp[GH.ay,g2,LR];have hM:=k1.congr (M':=py p d) λk=>by
   rw[Bool.eq_iff_iff,k2.all];simp[py]
  refine λhz=>⟨H.add (.map es2),?_,by rw[GH.aq];omega,es2,rfl,hM⟩
  refine B1 (by simp[GH.aL,GH.aq]) (λm hm=>?_) (hw.add (k1.nb _)) (by rw[GH.aq];omega)
  have hm':m<H.next+1:=hm;rw[GH.ay];by_cases e:m=H.next
  ·subst e;rw[if_pos rfl,GH.au,if_pos rfl]
  ·rw[if_neg e,g4 _ _ _ _ (by omega),GH.au,if_neg e]
 ·obtain⟨⟨_,q⟩,_⟩:=hR;cases q
theorem Ih(n:Nat)(H:GH)(R:DM->GH->Prop)(h:R .ret H):mO prog 152 [.gp n 0] H .ret R:=by
 refine mO.iA aP func152 rfl call152 rfl rfl rfl (by rw[ntmps152];simp) (by rw[ntmps152];omega) rfl λhw=>?_
 simp[KA,G8,ntmps152];refine EV.sound aP ?_;simp[Bp,G9];exact⟨H,aO (Nat.le_refl _) (λ_ _=>rfl) hw,h⟩
theorem kp(n:Nat)(c:List LV)(H:GH)(h1:H.obj n=some (.box c))(hl:c.length=1)(R:DM->GH->Prop)
  (h:R (.aa bZ) (H.set n (.box [.d (.k (.pointer none))]))):mO prog 152 [.gp n 0] H (.dY bZ) R:=by
 refine mO.iA aP func152 rfl call152 rfl rfl rfl (by rw[ntmps152];simp) (by rw[ntmps152];omega) rfl λhw=>?_
 simp[KA,G8,ntmps152,bZ];refine EV.sound aP ?_;obtain⟨x,rfl⟩:∃x,c=[x]:=by
  match c,hl with
  |[x],_=>exact⟨x,rfl⟩
 simp[Bp,G9,h1];have lt:∀n o,H.obj n=some o->n<H.next:=λn o ho=>by
  rcases Nat.lt_or_ge n H.next with q|q
  ·exact q
  ·rw[hw n q]at ho;cases ho
 exact⟨_,B2 (FQ (Nat.le_refl _) hw λ_ _ q=>.inl q) (lt _ _ h1) (by simp[ct,LV.nb]),h⟩
end Go.Aft
end
