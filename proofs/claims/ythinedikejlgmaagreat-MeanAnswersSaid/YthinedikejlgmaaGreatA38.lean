import Derived.Test.YthinedikejlgmaaGreatA37
import Derived.Test.YthinedikejlgmaaGreatA36
import Derived.Test.YthinedikejlgmaaGreatA33
import Derived.Test.YthinedikejlgmaaGreatA35
set_option linter.all false
section
set_option maxRecDepth 20000
namespace Go.Aft
open Go.Proofs.Tryz
theorem Pw(aj:List cr):aj.map bY=bG (aj.map bX):=by
 induction aj with
 |nil=>rfl
 |cons b l ih=>rw[List.map_cons,List.map_cons,ih];rfl
noncomputable def vf (p:Prog) (l:List Event):LV:=match fA p l with
 |some aj=>.dx [sl (aj.map bX),.d (.k (.bool true))]
 |none=>.dx [sl [],.d (.k (.bool false))]
theorem EE(p:Prog)(hs:∀s∈p.az++an p,cN s)(l:List Event)(ha:fE p l=true):aC prog 74 [lv (ax p),sl (l.map bg)] (vf p l):=by
 intro H;have cc:=ar (p:=aY [2] [] []);obtain⟨hp,hl,hi⟩:=rW ha;refine aF.dV (ar (p:=aY [2] [] [])) func74 rfl call74 (by rw[ntmps74];simp) rfl λhf hw=>?_
 have hk:=GR p hs hp l hl hi H;simp[ax]at hk;simp[ntmps74,results74,ax]at hf|-;refine AW.seq cc ?_;simp;refine AW.seq cc ?_;simp;refine EC.of hk (λv H2 hR=>?_) (λv H2 hR=>by
  unfold BV at hR
  split at hR
  ·obtain⟨q,_⟩:=hR;cases q
  ·obtain⟨_,_,_,q,_⟩:=hR;cases q)
 unfold BV at hR;cases hkn:fA p l with
 |none=>
  rw[hkn]at hR;obtain⟨q1,q2⟩:=hR;cases q1;rw[q2];simp;refine AW.seq cc ?_;simp;exact λhz=>⟨cC hz,by simp[vf,hkn]⟩
 |some aj=>
  rw[hkn]at hR;obtain⟨n,ns,nv,q1,q2,q3,hW,q4,q5,q6⟩:=hR;cases q1;simp;have hlen:∀r∈aj.map bX,r.length=1:=λr hr=>by obtain⟨_,_,rfl⟩:=List.mem_map.1 hr;rfl
  have jP:=hW.ob;have hnmv:n≠nv:=λe=>by
   have:=hW.ov;rw[<-e,jP]at this;cases this
  refine AW.cL (n:=nv) (g:=0) (sz:=1) (e:=30) (ex:=true) (aj.map bX) hW.ov (Pw aj) hlen ?_;simp;refine AW.seq cc ?_;simp;refine AW.ev cc ?_;simp[jP,hnmv];refine λhz=>⟨aO q4 (λm hm=>lB hw q3 (λk hk=>q5 k hk) hm) hw.none,?_⟩
  have ht:List.take aj.length (aj.map bX)=aj.map bX:=List.take_of_length_le (by simp)
  rw[ht];simp[vf,hkn]
theorem Qr(p:Prog)(hs:∀s∈p.az++an p,cN s)(l:List Event):aC prog 26 [lv (ax p),sl (l.map bg)] (iB p l):=by
 refine aC.body (ar (p:=aY [2] [] [])) func26 rfl call26 (by rw[ntmps26];simp) rfl λhf H=>?_
 have h1:=GW p hs l;simp[ax]at h1;simp[ntmps26,results26,ax];refine EC.aJ h1 ?_;cases ha:fE p l with
 |false=>simp[iB,ha]
 |true=>
  have h2:=EE p hs l ha;simp[ax]at h2;simp;refine EC.aJ h2 ?_;cases hk:fA p l with
  |none=>simp[vf,iB,ha,hk]
  |some aj=>simp[vf,iB,ha,hk]
theorem zJ(a b:List cr):aC prog 27 [sl (a.map bX),sl (b.map bX)] (.d (.k (.bool (decide (a=b))))):=by
 have cc:=ar (p:=aY [] [] []);refine aC.vz (ar (p:=aY [] [] [])) func27 rfl call27 (by rw[ntmps27];simp) rfl λhf H=>?_
 simp[ntmps27,results27]at hf|-;refine AW.seq cc ?_;simp;refine AW.seq cc ?_;simp;refine⟨λhl=>?_,λhl=>?_⟩
 ·intro e;subst e;exact hl rfl
 ·refine AW.ev cc ?_;simp;refine AW.aU cc (λi:Nat=>⟨[(0,.d (.sl (a.map bX))),(1,.d (.sl (b.map bX))),(5,aH i)],[],H⟩) (λi=>a.length-i) (λi=>i<=a.length/\a.take i=b.take i) 0 ⟨by simp,by simp⟩ ?_
  rintro i ⟨hi,hI⟩;simp;refine⟨λh'=>?_,λh'=>?_⟩
  ·have h'':i<b.length:=by omega
   have hs:=rV a[i] b[i];simp at hs;refine AW.draw cc [(8,.n)] (.q 0<|.q 1<|.q 2<|.q 4<|.q 5<|.q 6<|.q 3<|.q 7<|.q 8<|.q 9<|.done) (by kernel_rfl) ?_
   simp[h',h'',List.getElem?_eq_getElem h',List.getElem?_eq_getElem h'',bX];refine FC.aJ hs ?_;simp;refine⟨λq e=>by subst e;exact q rfl,λq=>?_⟩
   refine NX.go (i+1) (Nat.sub_lt_sub_left h' (Nat.lt_succ_self i)) ⟨h',?_⟩ (by simp[aB h' (by omega)])
   rw[List.take_add_one,List.take_add_one,hI,List.getElem?_eq_getElem h',List.getElem?_eq_getElem h'',q]
  ·have e:i=a.length:=by omega
   subst e;rw[List.take_length,List.take_of_length_le (by omega)]at hI
   exact hI
structure Folded where
 other:Int
 fold:Int
 bag:cr
end Go.Aft
end
section
set_option maxRecDepth 20000
namespace Go.Aft
open Go.RowKit
open Go.Proofs.Tryz
section
variable {H:Type} {enc:TypeId×Value->H} {w:World}
theorem KO{P:Program}{α:Type}{t e:TypeId}{r:List α->List DV}{x1:List α->DV}{fit:List α->Prop}{base:Nat}{v:Value}{d:DataW H}{p:List MemPlace}(hr:∀fuel,Rd enc P w t r fit fuel)(hx:∀x,r x=[x1 x])(hu:P.underlying t=some (.slice e))
  (hval:Value.okWide P w .any base t v) (hd:DataW.Trod enc P w 0 (λ_=>true) true t v d p) (hw:Wt P t d):∃x,fit x/\LR (BF w) 0 gP (.d (x1 x)) v:=by
 obtain⟨a,len,cap,rfl⟩:=Go.WideShapes.okWide_slice hu hval;obtain⟨fuel,hf⟩:=hd;obtain⟨x,h1,h2⟩:=hr fuel _ _ _ hf;refine⟨x,h2 hw,?_⟩;rw[hx]at h1;have h3:=rZ (G:=BF w) (nx:=0) (lm:=gP) h1;simp only[List.map_cons,List.map_nil]at h3;unfold bE at h3;obtain⟨v',vs',e,h4,_⟩:=h3;have:v'=.slice a len cap:=by
  have:=congrArg List.head? e;simpa[Value.cells]using this.symm
 rw[<-this];exact h4
theorem Qu(fuel:Nat):Rd enc prog w 82 bg (λ_=>True) fuel:=
 Rd.struct underlying82 fuel λf hf=>((gW.cons (n:=5) rfl (Rd.int underlying3 f)<|gW.cons rfl (Rd.int underlying3 f)<|gW.cons rfl (rd_rec f)<|gW.nil)).conv (λx=>⟨x.1,x.2.1,x.2.2.1⟩) (λ_=>rfl) (λ_ _=>trivial)
end
end Go.Aft
end
section
set_option maxRecDepth 20000
namespace Go.Aft
open Go.RowKit
open Go.Proofs.Tryz
theorem EN:∀{cs:List bc},(∀c∈cs,Oi c)->vZ cs
 |[],_=>trivial
 |c::cs,h=>⟨h c (by simp),EN λx hx=>h x (by simp[hx])⟩
theorem MD:∀{cs:List bw},(∀c∈cs,Ag c)->u0 cs
 |[],_=>trivial
 |c::cs,h=>⟨h c (by simp),MD λx hx=>h x (by simp[hx])⟩
section
variable {H:Type} {enc:TypeId×Value->H} {w:World}
theorem Qv:∀fuel,Rd enc prog w 25 bB Oi fuel:=λfuel=>by
 induction fuel using Nat.strongRecOn with
 |_ fuel ih=>
  refine Rd.struct underlying25 fuel λf hf=>?_
  refine(gW.cons (n:=3) rfl (Rd.int underlying22 f)<|gW.cons rfl (Rd.int underlying3 f)<|gW.cons rfl (Rd.vO (r:=bB) (fit:=Oi) underlying23 (by decide+kernel) (λx=>?_) f λg hg=>ih g (by omega))<|gW.nil).conv (λx=>.mk x.1 x.2.1 x.2.2.1) (λx=>?_) (λx h=>?_)
  ·rw[sx];decide+kernel
  ·rw[bB,jM];rfl
  ·rw[Oi];have:=h.2.2.1.1;rw[show prog.bytesOf 25=40 by decide+kernel]at this
   exact⟨this,EN h.2.2.1.2⟩
theorem UX:∀fuel,Rd enc prog w 68 aQ Ag fuel:=λfuel=>by
 induction fuel using Nat.strongRecOn with
 |_ fuel ih=>
  refine Rd.struct underlying68 fuel λf hf=>?_
  refine(gW.cons (n:=6) rfl (Rd.int underlying66 f)<|gW.cons rfl (Rd.str underlying9 f)<|gW.cons rfl (Rd.int underlying3 f)<|gW.cons rfl (Rd.int underlying28 f)<|gW.cons rfl (Rd.vO (r:=bB) (fit:=Oi) underlying23 (by decide+kernel) (λx=>?_) f λg hg=>Qv g)<|gW.cons rfl (Rd.vO (r:=aQ) (fit:=Ag) underlying64 (by decide+kernel) (λx=>?_) f λg hg=>ih g (by omega))<|gW.nil).conv (λx=>.mk x.1 x.2.1 x.2.2.1 x.2.2.2.1 x.2.2.2.2.1 x.2.2.2.2.2.1) (λx=>?_) (λx h=>?_)
  ·rw[sx];decide+kernel
  ·rw[Hh];decide+kernel
  ·rw[aQ,jM,vV];rfl
  ·rw[Ag];have h1:=h.2.2.2.2.1;have h2:=h.2.2.2.2.2.1;rw[show prog.bytesOf 25=40 by decide+kernel]at h1
   rw[show prog.bytesOf 68=88 by decide+kernel]at h2
   exact⟨h1.1,h2.1,EN h1.2,MD h2.2⟩
theorem UY(fuel:Nat):Rd enc prog w 70 ez (λd=>cN d.name/\Ag d.exp) fuel:=
 Rd.struct underlying70 fuel λf hf=>(gW.cons (n:=7) rfl (Rd.str underlying9 f)<|gW.cons rfl (UX f)<|gW.nil).conv (λx=>⟨x.1,x.2.1⟩) (λx=>by simp[ez]) (λx h=>⟨h.1,h.2.1⟩)
theorem Qt(fuel:Nat):Rd enc prog w 42 ax (λp=>fitP p/\okP p) fuel:=
 Rd.struct underlying42 fuel λf hf=>(gW.cons (n:=2) rfl (Rd.vO (r:=rS) (fit:=cN) underlying39 (by decide+kernel) (λx=>by rw[rS,show prog.cellsOf 9=1 by decide+kernel];rfl) f λg hg=>Rd.str underlying9 g)<|gW.cons rfl (Rd.vO (r:=ez) (fit:=λd=>cN d.name/\Ag d.exp) underlying40 (by decide+kernel) (λx=>by rw[Qz];decide+kernel) f λg hg=>UY g)<|gW.nil).conv (λx=>⟨x.1,x.2.1⟩) (λx=>rfl) (λx h=>⟨λs hs=>by
  rcases List.mem_append.1 hs with q|q
  ·exact h.1.2 s q
  ·obtain⟨d,hd,rfl⟩:=List.mem_map.1 q;exact(h.2.1.2 d hd).1,by
  have h1:=h.1.1;have h2:=h.2.1.1;rw[show prog.bytesOf 9=16 by decide+kernel]at h1
  rw[show prog.bytesOf 70=104 by decide+kernel]at h2
  exact⟨h1,h2,λd hd=>(h.2.1.2 d hd).2⟩⟩)
theorem KP(fuel:Nat):Rd enc prog w 43 (λl:List Event=>[.sl (l.map bg)]) (λl=>l.length*40<=140737488351232) fuel:=(Rd.vO (r:=bg) (fit:=λ_=>True) underlying43 (by decide+kernel) (λx=>by rw[show prog.cellsOf 82=5 by decide+kernel];rfl) fuel λf _=>Qu f).map id (λ_=>rfl) (λl h=>by
 have:=h.1;rw[show prog.bytesOf 82=40 by decide+kernel]at this
 exact this)
end
end Go.Aft
end
section
set_option maxRecDepth 20000
namespace Go.Aft
open Go.Proofs.Tryz
theorem yp(l:List ca)(hl:l.length<=140737488351232):aC prog 75 [sl (l.map rS),sl (l.map rS)] (.d (.k (.bool true))):=by
 have cc:=ar (p:=aY [] [] []);refine aC.body (ar (p:=aY [] [] [])) func75 rfl call75 (by rw[ntmps75];simp) rfl λhf H=>?_
 simp[ntmps75,results75]at hf|-;refine AW.aU cc (λi:Nat=>⟨[(0,sl (l.map rS)),(1,sl (l.map rS)),(5,aH i)],[],H⟩) (λi=>l.length-i) (λi=>i<=l.length) 0 ⟨Nat.zero_le _,by simp⟩ ?_
 intro i hi;simp;intro h;refine AW.draw cc [] (.q 0<|.q 1<|.q 2<|.q 4<|.q 5<|.q 6<|.q 3<|.q 7<|.q 8<|.done) (by kernel_rfl) ?_
 simp[h,List.getElem?_eq_getElem h,rS];exact NX.go (i+1) (by omega) h (by simp[aB (n:=9223372036854775807) (show i<9223372036854775807 by omega)])
theorem yq(op n:Int)(kids:List bc)(hk:kids.length*40<=140737488351232)(ih:∀k∈kids,aC prog 140 [lv (bB k),lv (bB k)] (.d (.k (.bool true)))):aC prog 140 [lv (bB (.mk op n kids)),lv (bB (.mk op n kids))] (.d (.k (.bool true))):=by
 have cc:=ar (p:=aY [2,3] [] []);refine aC.body (ar (p:=aY [2,3] [] [])) func140 rfl call140 (by rw[ntmps140];simp) rfl λhf H=>?_
 simp[ntmps140,results140,aN,bc.op,bc.n,bc.kids]at hf|-;refine AW.aU cc (λi:Nat=>⟨[(2,.ip [aH op,aH n,sl (kids.map bB)] 0),(3,.ip [aH op,aH n,sl (kids.map bB)] 0),(5,aH i)],[],H⟩) (λi=>kids.length-i) (λi=>i<=kids.length) 0 ⟨Nat.zero_le _,by simp⟩ ?_
 intro i hi;simp;intro h;refine AW.draw cc [(10,.n)] (.q 0<|.q 2<|.q 5<|.q 7<|.q 1<|.q 3<|.q 4<|.q 6<|.q 8<|.q 9<|.q 10<|.q 11<|.done) (by kernel_rfl) ?_
 simp[h,List.getElem?_eq_getElem h,aN];refine FC.aJ (v:=.d (.k (.bool true))) (by simpa[aN]using ih kids[i] (List.getElem_mem h)) ?_
 simp;exact NX.go (i+1) (by omega) h (by simp[aB (n:=9223372036854775807) (show i<9223372036854775807 by omega)])
mutual
theorem zY:∀c:bc,Oi c->aC prog 140 [lv (bB c),lv (bB c)] (.d (.k (.bool true)))
 |.mk op n kids,h=>by
  rw[Oi]at h;exact yq op n kids h.1 (kU kids h.2)
theorem kU:∀cs:List bc,vZ cs->∀k∈cs,aC prog 140 [lv (bB k),lv (bB k)] (.d (.k (.bool true)))
 |[],_,k,hk=>by cases hk
 |c::cs,h,k,hk=>by
  rw[vZ]at h;rcases List.mem_cons.1 hk with q|hk
  ·rw[q];exact zY c h.1
  ·exact kU cs h.2 k hk
end
theorem zX(op:Int)(name:ca)(n fold:Int)(aD:List bc)(kids:List bw)(hc:aD.length*40<=140737488351232)(hk:kids.length*88<=140737488351232)(hcs:∀k∈aD,aC prog 140 [lv (bB k),lv (bB k)] (.d (.k (.bool true))))
  (ih:∀k∈kids,aC prog 76 [lv (aQ k),lv (aQ k)] (.d (.k (.bool true)))):aC prog 76 [lv (aQ (.mk op name n fold aD kids)),lv (aQ (.mk op name n fold aD kids))] (.d (.k (.bool true))):=by
 have cc:=ar (p:=aY [2,3] [] []);refine aC.body (ar (p:=aY [2,3] [] [])) func76 rfl call76 (by rw[ntmps76];simp) rfl λhf H=>?_
 obtain⟨R,hR⟩:∃R,[aH op,.d (.k (.string name)),aH n,aH fold,sl (aD.map bB),sl (kids.map aQ)]=R:=⟨_,rfl⟩;simp[ntmps76,results76,ai,bw.op,bw.n,bw.kids,bw.name,bw.fold,bw.aD]at hf|-;refine AW.aU cc (λi:Nat=>⟨[(2,.ip R 0),(3,.ip R 0),(5,aH i)],[],H⟩) (λi=>aD.length-i) (λi=>i<=aD.length) 0 ⟨Nat.zero_le _,by simp[<-hR]⟩ ?_
 intro i hi;simp[<-hR];refine⟨λh=>?_,λh=>?_⟩
 ·refine AW.draw cc [(10,.n)] (.q 0<|.q 2<|.q 5<|.q 7<|.q 1<|.q 3<|.q 4<|.q 6<|.q 8<|.q 9<|.q 10<|.q 11<|.done) (by kernel_rfl) ?_
  simp[h,List.getElem?_eq_getElem h,aN];refine FC.aJ (v:=.d (.k (.bool true))) (by simpa[aN]using hcs aD[i] (List.getElem_mem h)) ?_
  simp;exact NX.go (i+1) (by omega) h (by simp[<-hR,aB (n:=9223372036854775807) (show i<9223372036854775807 by omega)])
 ·refine AW.aU cc (λi:Nat=>⟨[(2,.ip R 0),(3,.ip R 0),(6,aH i)],[],H⟩) (λi=>kids.length-i) (λi=>i<=kids.length) 0 ⟨Nat.zero_le _,by simp[<-hR]⟩ ?_
  intro i hi;simp[<-hR];intro h;refine AW.draw cc [(10,.n)] (.q 0<|.q 2<|.q 5<|.q 7<|.q 1<|.q 3<|.q 4<|.q 6<|.q 8<|.q 9<|.q 10<|.q 11<|.done) (by kernel_rfl) ?_
  simp[h,List.getElem?_eq_getElem h,ai];refine FC.aJ (v:=.d (.k (.bool true))) (by simpa[ai]using ih kids[i] (List.getElem_mem h)) ?_
  simp;exact NX.go (i+1) (by omega) h (by simp[<-hR,aB (n:=9223372036854775807) (show i<9223372036854775807 by omega)])
mutual
theorem td:∀e:bw,Ag e->aC prog 76 [lv (aQ e),lv (aQ e)] (.d (.k (.bool true)))
 |.mk op name n fold aD kids,h=>by
  rw[Ag]at h;exact zX op name n fold aD kids h.1 h.2.1 (kU aD h.2.2.1) (qP kids h.2.2.2)
theorem qP:∀es:List bw,u0 es->∀k∈es,aC prog 76 [lv (aQ k),lv (aQ k)] (.d (.k (.bool true)))
 |[],_,k,hk=>by cases hk
 |c::cs,h,k,hk=>by
  rw[u0]at h;rcases List.mem_cons.1 hk with q|hk
  ·rw[q];exact td c h.1
  ·exact qP cs h.2 k hk
end
theorem KH(p:Prog)(hp:okP p):aC prog 28 [lv (ax p),lv (ax p)] (.d (.k (.bool true))):=by
 obtain⟨hp1,hp2,hp3⟩:=hp;have cc:=ar (p:=aY [2,3] [] []);refine aC.body (ar (p:=aY [2,3] [] [])) func28 rfl call28 (by rw[ntmps28];simp) rfl λhf H=>?_
 have ht:=yp p.az (by omega)
 simp at ht;simp[ntmps28,results28,ax]at hf|-;refine EC.aJ ht ?_;simp;refine AW.aU cc (λi:Nat=>⟨[(2,.ip ((ax p).map .d) 0),(3,.ip ((ax p).map .d) 0),(5,aH i)],[],H⟩) (λi=>p.aj.length-i) (λi=>i<=p.aj.length) 0 ⟨Nat.zero_le _,by simp[ax]⟩ ?_
 intro i hi;simp[ax];intro h;have he:=td p.aj[i].exp (hp3 _ (List.getElem_mem h));simp[ai]at he;refine AW.draw cc [(26,.n)] (.q 0<|.q 2<|.q 6<|.q 8<|.q 1<|.q 3<|.q 4<|.q 5<|.q 7<|.q 9<|.q 10<|.q 11<|.q 12<|.q 13<|.q 14<|.q 16<|.q 20<|.q 22<|.q 15<|.q 17<|.q 18<|.q 19<|.q 21<|.q 23<|.q 24<|.q 25<|.q 26<|.q 27<|.q 28<|.done) (by kernel_rfl) ?_
 simp[h,List.getElem?_eq_getElem h,ez,ai];refine sV.aJ (λ_=>he) ?_
 simp;exact NX.go (i+1) (by omega) h (by simp[ax,aB (n:=9223372036854775807) (show i<9223372036854775807 by omega)])
theorem KL(p:Prog)(hp:okP p):aC prog 24 [lv (ax p)] (lv (ax p)):=by
 obtain⟨hp1,hp2,hp3⟩:=hp;have cc:=ar (p:=aY [1] [] []);refine aC.vz (ar (p:=aY [1] [] [])) func24 rfl call24 (by rw[ntmps24];simp) rfl λhf H=>?_
 simp[ntmps24,results24,ax]at hf|-;refine AW.seq cc ?_;simp;refine AW.seq cc ?_;simp;refine eE.dJ (ys:=p.az.map rS) F9 rfl P6 (by simp) (by simp) (.nil (H:=H)) (by simp[rowsOf]) (by simp) (by simp) (λr hr=>by obtain⟨_,_,rfl⟩:=List.mem_map.1 hr;rfl) (by simp;omega) (by simp) λx Ha hx vm ho1=>?_
 simp only[List.nil_append]at hx;simp[hx.plain.all];refine AW.seq cc ?_;simp;refine AW.aU cc (λa:Nat×LV×GH=>⟨[(1,.ip ((ax p).map .d) 0),(2,.lp 2 0),(3,.lp 3 0),(4,aH a.1)],[(2,[.d (.k (.slice none 0 0)),.d (.k (.slice none 0 0))]),(3,[x,a.2.1])],a.2.2⟩) (λa=>p.aj.length-a.1)
  (λa=>a.1<=p.aj.length/\cm 70 7 Ha a.2.1 ((p.aj.take a.1).map ez) a.2.2) (0,.d (.k (.slice none 0 0)),Ha) ⟨⟨Nat.zero_le _,by simpa using cm.nil⟩,by simp[ax,hx.only]⟩ ?_
 rintro⟨i,y,H2⟩ ⟨hi,hy⟩;simp only at hi hy;simp[ax];refine⟨λh=>?_,λh=>?_⟩
 ·have hce:=tg p.aj[i].exp (hp3 _ (List.getElem_mem h));simp[ai]at hce;refine AW.draw cc [(3,.n),(7,.n),(9,.n),(13,.n),(14,.n)] (.q 0<|.q 2<|.q 3<|.q 4<|.q 5<|.q 6<|.q 7<|.q 8<|.q 9<|.q 10<|.q 11<|.q 12<|.q 13<|.q 14<|.q 15<|.q 16<|.q 1<|.f<|.one 17<|.q 18<|.f<|.one 19<|.done) (by kernel_rfl) ?_
  simp[h,List.getElem?_eq_getElem h,ez,ai];refine FC.aJ hce ?_;simp[ai];refine eE.dJ (ys:=[ez p.aj[i]]) tyE40 rfl tyE70 (by simp) (x:=y) (by simp[hy.plain.all]) hy (by simp[rowsOf,ez,ai]) (by simp) (λr hr=>by obtain⟨_,_,rfl⟩:=List.mem_map.1 hr;simp) (by simp) (by simp;omega) (by simp) λy' H3 h3 n3 f3=>?_
  rw[show(p.aj.take i).map ez++[ez p.aj[i]]=(p.aj.take (i+1)).map ez by rw[<-aR h,List.map_append];rfl]at h3
  simp[hx.plain.all,h3.plain.all,h3.nb,aB (n:=9223372036854775807) (show i<9223372036854775807 by omega)]
  exact NX.go (i+1,y',H3) (by simp only;omega) ⟨h,h3⟩ (by simp[ax,hx.only,h3.only])
 ·have e:i=p.aj.length:=by omega
  subst e;rw[List.take_length]at hy;refine AW.ev cc ?_;simp[hx.plain.all,hy.plain.all,hx.fz,hy.fz];exact⟨rfl,Nat.le_trans hx.nx hy.nx,λm hm=>by rw[hy.ob m (Nat.lt_of_lt_of_le hm hx.nx),hx.ob m hm]⟩
theorem HE(p:Prog)(l:List Event):∃(aj:List cr) (e:Int),iB p l=.dx [sl (aj.map bX),aH e]:=by
 unfold iB
 split
 ·split
  ·exact⟨_,_,rfl⟩
  ·exact⟨[],_,rfl⟩
 ·exact⟨[],_,rfl⟩
theorem yy(p:Prog)(hp:fitP p/\okP p)(l:List Event)(hl:l.length*40<=140737488351232):aC prog 5 [lv (ax p),sl (l.map bg)] (.d (.k (.bool true))):=by
 intro H;have cc:=ar (p:=aY [2] [] []);refine aF.bD (ar (p:=aY [2] [] [])) func5 rfl call5 (by rw[ntmps5];simp) rfl λhf hw=>?_
 have hs:∀s∈p.az++an p,cN s:=hp.1;obtain⟨aj,e,J8⟩:=HE p l;have h1:=KL p hp.2;have h2:=ML p hs l;have h3:=Qr p hs l;have h4:=zJ aj aj;have h5:=KH p hp.2;have h6:=vS l l;rw[J8]at h2 h3;simp[ax]at h1 h2 h3 h5;simp at h4 h6;simp[ntmps5,results5,ax];refine EC.aJ h1 ?_;simp;refine eE.dJ (ys:=l.map bg) (H0:=H) (rows:=[]) (x:=.d (.k (.slice none 0 0))) tyE43 rfl tyE82 (by simp) (by simp) cm.nil (by simp[rowsOf]) (by simp) (by simp) (λr hr=>by obtain⟨_,_,rfl⟩:=List.mem_map.1 hr;rfl) (by simp;omega) (by simp) λx1 H1 aA _ _=>?_
 simp[aA.plain.all];refine⟨aA.nb,EC.aJ (aC.OW (by simp only[xV,fz,aA.fz];exact h2)) ?_⟩
 simp;refine EC.aJ h3 ?_;simp;refine EC.aJ h4 ?_;simp;refine EC.aJ h5 ?_;simp[aA.plain.all];refine⟨aA.nb,EC.aJ (aC.OW (by simp only[xV,fz,aA.fz];exact h6)) ?_⟩
 simp;refine EC.aJ Ov ?_;simp;exact λhz=>aO aA.nx aA.ob hw.none
end Go.Aft
end
