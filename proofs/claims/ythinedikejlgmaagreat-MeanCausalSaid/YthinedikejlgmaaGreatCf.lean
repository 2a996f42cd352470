import Derived.Test.YthinedikejlgmaaGreatA37
set_option linter.all false
set_option maxRecDepth 20000
namespace Go.Aft
open Go.Proofs.Tryz
noncomputable def sv (p:Prog) (l:List Event):Bool:=dR p l&&(dw p l).isSome
theorem vS(p:Prog)(hs:∀s∈p.az++an p,cN s)(l:List Event):aC prog 32 [lv (ar p),sl (l.map aQ)] (.d (.k (.bool (sv p l)))):=by
 refine aC.body (au (p:=bf [2] [] [])) func32 rfl call32 (by rw[ntmps32];simp) rfl λhf H=>?_
 have h1:=xX p hs l;simp[ar]at h1;simp[ntmps32,results32,ar];refine EC.aJ h1 ?_;cases ha:dR p l with
 |false=>simp[sv,ha]
 |true=>
  have h2:=Fw p hs l ha;simp[ar]at h2;simp;refine EC.aJ h2 ?_;cases hk:dw p l with
  |none=>simp[vQ,hk,sv]
  |some ai=>simp[vQ,hk,sv,ha]
theorem D7(p:Prog)(h6:p.ai.length<=1000)(hn:∀d∈p.ai,(bc d.exp).length<=1000000):aC prog 39 [lv (ar p)] (.d (.k (.bool (p.ai.any λd=>(bc d.exp).any bJ)))):=by
 have cc:=au (p:=bf [1] [] []);refine aC.body (au (p:=bf [1] [] [])) func39 rfl call39 (by rw[ntmps39];simp) rfl λhf H=>?_
 simp[ntmps39,results39,ar];refine AW.aV cc (λi:Nat=>⟨[(1,.ip ((ar p).map .d) 0),(3,aH i)],[],H⟩) (λi=>p.ai.length-i) (λi=>i<=p.ai.length/\∀j (h:j<p.ai.length),j<i->(bc p.ai[j].exp).any bJ=false) 0 ⟨by simp,by simp[ar]⟩ λi hi=>?_
 simp[ar];refine⟨λh=>?_,λh=>?_⟩
 ·obtain⟨d,hd⟩:∃d,p.ai[i]=d:=⟨_,rfl⟩;have qQ:=hn d (hd▸List.getElem_mem h);have ha:=oI d.exp qQ;simp[aj]at ha;simp[h,List.getElem?_eq_getElem h,hd,fm,aj];refine EC.aJ ha ?_;simp;generalize hl:bc d.exp=l at qQ;refine AW.aV cc (λk:Nat=>⟨[(1,.ip ((ar p).map .d) 0),(3,aH i),(4,.d (.sl (l.map aS))),(5,aH k)],[],H⟩) (λk=>l.length-k) (λk=>k<=l.length/\∀j (h:j<l.length),j<k->bJ l[j]=false) 0 ⟨by simp,by simp[ar]⟩ λk hk=>?_
  simp;refine⟨λjo=>?_,λjo=>?_⟩
  ·simp[jo,List.getElem?_eq_getElem jo,aj];refine⟨λq=>⟨q,λq2=>⟨q,q2⟩⟩,λq=>⟨d,hd▸List.getElem_mem h,l[k],by rw[hl];exact List.getElem_mem jo,by simpa[bJ]using q⟩,λq1 q2=>?_⟩
   refine NX.go (k+1) (by omega) ⟨jo,λj hj hjk=>?_⟩ (by simp[aB (n:=1000000) (show k<1000000 by omega),ar])
   by_cases z:j=k
   ·subst z;simp[bJ];exact⟨q1,q2⟩
   ·exact hk.2 j hj (by omega)
  ·refine NX.go (i+1) (by omega) ⟨h,λj hj hji=>?_⟩ (by simp[aB (n:=1000000) (show i<1000000 by omega),ar])
   by_cases z:j=i
   ·subst z;rw[hd,hl,List.any_eq_false];intro x hx;obtain⟨m,hm,rfl⟩:=List.mem_iff_getElem.1 hx;simpa using hk.2 m hm (by omega)
   ·exact hi.2 j hj (by omega)
 ·intro d hd;obtain⟨j,hj,rfl⟩:=List.mem_iff_getElem.1 hd;have:=hi.2 j hj (by omega)
  simpa using this
theorem Pq(l:List Event)(at_:Int)(hl:l.length<=1000000):aC prog 40 [sl (l.map aQ),aH at_] (sl ((l.filter λe=>decide (e.aa.at_<=at_)).map aQ)):=by
 intro H;have cc:=au (p:=bf [] [] []);refine aG.bG (au (p:=bf [] [] [])) func40 rfl call40 (by rw[ntmps40];simp) rfl λhf hw=>?_
 simp[ntmps40,results40]at hf|-;refine AW.aV cc (λs:Nat×LV×GH=>⟨[(0,.d (.sl (l.map aQ))),(1,aH at_),(5,s.2.1),(6,aH s.1)],[],s.2.2⟩) (λs=>l.length-s.1)
  (λs=>s.1<=l.length/\cu 82 5 H s.2.1 (((l.take s.1).filter λe=>decide (e.aa.at_<=at_)).map aQ) s.2.2) (0,.d (.k (.slice none 0 0)),H) ⟨⟨Nat.zero_le _,cu.nil⟩,by simp⟩ ?_
 rintro⟨i,y,H2⟩ ⟨hi',aA⟩;simp only at hi' aA;simp;refine⟨λh=>?_,λh=>?_⟩
 ·obtain⟨x,dc⟩:∃x,l[i]=x:=⟨_,rfl⟩;have gx:l.take (i+1)=l.take i++[x]:=by rw[<-aR h,dc]
  have eM:=aB (n:=9223372036854775807) (show i<9223372036854775807 by omega)
  have hfl:((l.take i).filter λe=>decide (e.aa.at_<=at_)).length<=1000000:=Nat.le_trans (List.length_filter_le _ _) (by simp;omega)
  simp[h,List.getElem?_eq_getElem h,dc,aQ,bE];refine⟨λq=>⟨aA.plain.tO,?_⟩,λq=>?_⟩
  ·refine eO.dU (ys:=[aQ x]) Q5 rfl Q3 (by simp) (x:=y) (by simp[aA.plain.un]) aA (by simp[aQ,bE,rowsOf]) (by simp) (λr hr=>by obtain⟨_,_,rfl⟩:=List.mem_map.1 hr;rfl) (λr hr=>by simp only[List.mem_singleton]at hr;subst hr;rfl) (by simp;omega) (by simp) λx' H3 aF _ _=>?_
   simp[aF.plain.all,aF.only,eM];refine NX.go (i+1,x',H3) (by simp only;omega) ⟨h,?_⟩ (by simp[aF.only])
   rw[gx,List.filter_append,List.filter_cons_of_pos (by simpa using q),List.map_append]
   exact aF
  ·refine NX.go (i+1,y,H2) (by simp only;omega) ⟨h,?_⟩ (by simp[aA.only,eM])
   rw[gx,List.filter_append,List.filter_cons_of_neg (by simpa using q),List.filter_nil,List.append_nil]
   exact aA
 ·have:i=l.length:=by omega
  subst this;rw[List.take_length]at aA;simp[aA.plain.all];exact λhz=>⟨H,aL aA.nx aA.ob hw.none,by rw[aA.fz];trivial,aA.fz,rfl⟩
end Go.Aft
