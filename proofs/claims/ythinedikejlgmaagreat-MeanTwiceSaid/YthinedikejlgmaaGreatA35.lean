import Derived.Test.YthinedikejlgmaaGreatA34
import Derived.Test.YthinedikejlgmaaGreatA33
import Derived.Test.YthinedikejlgmaaGreatA27
import Derived.Test.YthinedikejlgmaaGreatA24
import Derived.Test.YthinedikejlgmaaGreatA30
import Derived.Test.YthinedikejlgmaaGreatA18
set_option linter.all false
section
set_option maxRecDepth 20000
namespace Go.Aft
open Go.Proofs.Tryz
def Rc(op n:Int):List Item->Int->Int->Option (Int×Int):=if op=8 then xw n else if op=9 then wM n else wK
theorem uU(gen:Item->Option Rec):∀b:List Item,(eD gen b).length<=b.length:=by
 refine iI (Nat.le_refl _) λb x ih=>?_
 rw[kY];cases gen x with
 |none=>simp;omega
 |some r=>simp only;split<;>simp<;>omega
theorem qT(b:List Item)(k lo hi:Int):(dN b k lo hi).length<=b.length:=List.length_filter_le _ _
theorem HU(e:bz)(l:List Item)(hop:e.op=8\/ e.op=9\/ e.op=10)(hn:0<=e.n/\e.n<=1000)(h8:e.op=8->1<=e.n)(YP:1<=e.fold/\e.fold<=4)(hl:l.length<=1000)(hb:∀x∈l,0<=x.aa.at_/\x.aa.at_<=200/\C6 x):
  aC prog 202 [lv (aS e),sl (l.map ak)] (sl ((eD (ja e.fold 0 (Rc e.op e.n) l) l).map ak)):=by
 intro H;have cc:=au (p:=bf [2] [] []);refine aG.bG (au (p:=bf [2] [] [])) func202 rfl call202 (by rw[ntmps202];simp) rfl λhf hw=>?_
 simp[ntmps202,results202,aj]at hf|-;refine AW.aV cc (λs:Nat×LV×GH=>⟨[(1,sl (l.map ak)),(2,.ip ((aS e).map .d) 0),(5,s.2.1),(6,aH s.1)],[],s.2.2⟩) (λs=>l.length-s.1)
  (λs=>s.1<=l.length/\cu 86 4 H s.2.1 ((eD (ja e.fold 0 (Rc e.op e.n) l) (l.take s.1)).map ak) s.2.2) (0,.d (.k (.slice none 0 0)),H) ⟨⟨Nat.zero_le _,cu.nil⟩,by simp[aj]⟩ ?_
 rintro⟨i,y,H2⟩ ⟨hi',aA⟩;simp only at hi' aA;simp;refine⟨λh=>?_,λh=>?_⟩
 ·obtain⟨x,dc⟩:∃x,l[i]=x:=⟨_,rfl⟩;obtain⟨hx1,hx2,Wc⟩:=hb x (dc▸List.getElem_mem h);have gx:l.take (i+1)=l.take i++[x]:=by rw[<-aR h,dc]
  have eM:=aB (n:=9223372036854775807) (show i<9223372036854775807 by omega)
  have dK:=kY (ja e.fold 0 (Rc e.op e.n) l) (l.take i) x;rw[<-gx]at dK;have GV:=uU (ja e.fold 0 (Rc e.op e.n) l) (l.take i);have hlt:(l.take i).length<=i:=by simp;omega
  obtain⟨lo,hi,hsp,hcs⟩:∃lo hi,Rc e.op e.n l x.aa.key x.aa.at_=some (lo,hi)/\(e.op=8/\(IntKind.i64.wrap (x.aa.at_-x.aa.at_.tmod e.n)=lo/\IntKind.i64.wrap (lo+e.n)=hi+1/\IntKind.i64.wrap hi=hi)\/
    e.op=9/\(IntKind.i64.wrap (x.aa.at_-e.n)=lo/\hi=x.aa.at_)\/ e.op=10/\(lo=0/\hi=x.aa.at_)):=by
   rcases hop with q|q|q
   ·have h1:=h8 q;have h2:=Int.tmod_add_mul_tdiv x.aa.at_ e.n;have h3:0<=x.aa.at_.tmod e.n:=Int.tmod_nonneg _ hx1;have h6:=Int.mul_nonneg (show 0<=e.n by omega) (Int.tdiv_nonneg hx1 (show 0<=e.n by omega))
    have h5:x.aa.at_-x.aa.at_.tmod e.n=x.aa.at_.tdiv e.n*e.n:=by rw[Int.mul_comm];omega
    refine⟨_,_,by rw[Rc,if_pos q];rfl,.inl ⟨q,?_,?_,?_⟩⟩
    ·rw[h5,wrap64]<;>omega
    ·rw[wrap64]<;>omega
    ·rw[wrap64]<;>omega
   ·exact⟨_,_,by rw[Rc,if_neg (by omega),if_pos q];rfl,.inr (.inl ⟨q,by rw[wrap64]<;>omega,rfl⟩)⟩
   ·exact⟨_,_,by rw[Rc,if_neg (by omega),if_neg (by omega)];rfl,.inr (.inr ⟨q,rfl,rfl⟩)⟩
  have F7:ja e.fold 0 (Rc e.op e.n) l x=some ⟨hi,x.aa.key,foldI e.fold (dN l x.aa.key lo hi)⟩:=by
   unfold ja;rw[hsp];simp
  have hky:=nG l x.aa.key lo hi hl;have hfo:=vF e.fold YP (dN l x.aa.key lo hi) (Nat.le_trans (qT _ _ _ _) hl) λz hz=>(hb z (mA.1 hz).1).2.2
  simp at hky hfo;obtain⟨fo,ad1⟩:∃fo,foldI e.fold (dN l x.aa.key lo hi)=fo:=⟨_,rfl⟩;rw[ad1]at hfo F7;rw[F7]at dK;simp only at dK;obtain⟨out,hout⟩:∃out,eD (ja e.fold 0 (Rc e.op e.n) l) (l.take i)=out:=⟨_,rfl⟩;rw[hout]at dK aA GV;have zc:=Dz out ⟨⟨hi,x.aa.key,fo⟩,1⟩ (by omega)
  simp[ak]at zc;rcases hcs with⟨q,c1,c2,c3⟩|⟨q,c1,rfl⟩|⟨q,rfl,rfl⟩
  ·have hn0:¬e.n=0:=by have:=h8 q;omega
   simp[h,List.getElem?_eq_getElem h,dc,ak,aA.plain.all,aj,q,hn0];refine AW.draw cc [(18,.n),(19,.n)] (.q 0<|.q 1<|.q 2<|.q 3<|.q 4<|.q 5<|.q 7<|.q 9<|.q 10<|.q 11<|.q 12<|.q 13<|.q 14<|.q 16<|.q 17<|.q 6<|.q 8<|.q 15<|.q 18<|.q 19<|.q 20<|.q 21<|.f<|.one 22<|.f<|.one 23<|.done) (by kernel_rfl) ?_
   simp[h,List.getElem?_eq_getElem h,dc,ak,aj,c1,c2,c3];refine FC.aJ hky ?_;simp[h,List.getElem?_eq_getElem h,dc,ak,aj];refine FC.aJ hfo ?_;simp[h,List.getElem?_eq_getElem h,dc,ak,aj,aA.plain.all];refine⟨aA.nb,EC.aJ (aC.SV (v:=.d (.k (.bool (decide ((⟨⟨hi,x.aa.key,fo⟩,1⟩:Item)∈out))))) (by simp only[zz,fz,aA.fz];exact zc)) ?_⟩
   by_cases hm:(⟨⟨hi,x.aa.key,fo⟩,1⟩:Item)∈out
   ·rw[if_pos hm]at dK;simp[hm];exact NX.go (i+1,y,H2) (by simp only;omega) ⟨h,by rw[dK];exact aA⟩ (by simp[aA.only,eM,aj,q])
   ·rw[if_neg hm]at dK;simp[hm,aA.plain.all];refine eO.dU (ys:=[ak ⟨⟨hi,x.aa.key,fo⟩,1⟩]) fk rfl dZ (by simp) (x:=y) (by simp) aA (by simp[ak,rowsOf]) (by simp) (bp _) (ez _) (by simp only[List.length_map,List.length_singleton];omega) (by simp) λx' H3 aF _ _=>?_
    simp[aF.plain.all,aF.only,eM];rw[cU,<-dK]at aF;exact NX.go (i+1,x',H3) (by simp only;omega) ⟨h,aF⟩ (by simp[aF.only,aj,q])
  ·simp[h,List.getElem?_eq_getElem h,dc,ak,aA.plain.all,aj,q];refine AW.draw cc [(18,.n),(19,.n)] (.q 0<|.q 1<|.q 2<|.q 3<|.q 4<|.q 5<|.q 7<|.q 9<|.q 10<|.q 11<|.q 12<|.q 13<|.q 14<|.q 16<|.q 17<|.q 6<|.q 8<|.q 15<|.q 18<|.q 19<|.q 20<|.q 21<|.f<|.one 22<|.f<|.one 23<|.done) (by kernel_rfl) ?_
   simp[h,List.getElem?_eq_getElem h,dc,ak,aj,c1];refine FC.aJ hky ?_;simp[h,List.getElem?_eq_getElem h,dc,ak,aj];refine FC.aJ hfo ?_;simp[h,List.getElem?_eq_getElem h,dc,ak,aj,aA.plain.all];refine⟨aA.nb,EC.aJ (aC.SV (v:=.d (.k (.bool (decide ((⟨⟨x.aa.at_,x.aa.key,fo⟩,1⟩:Item)∈out))))) (by simp only[zz,fz,aA.fz];exact zc)) ?_⟩
   by_cases hm:(⟨⟨x.aa.at_,x.aa.key,fo⟩,1⟩:Item)∈out
   ·rw[if_pos hm]at dK;simp[hm];exact NX.go (i+1,y,H2) (by simp only;omega) ⟨h,by rw[dK];exact aA⟩ (by simp[aA.only,eM,aj,q])
   ·rw[if_neg hm]at dK;simp[hm,aA.plain.all];refine eO.dU (ys:=[ak ⟨⟨x.aa.at_,x.aa.key,fo⟩,1⟩]) fk rfl dZ (by simp) (x:=y) (by simp) aA (by simp[ak,rowsOf]) (by simp) (bp _) (ez _) (by simp only[List.length_map,List.length_singleton];omega) (by simp) λx' H3 aF _ _=>?_
    simp[aF.plain.all,aF.only,eM];rw[cU,<-dK]at aF;exact NX.go (i+1,x',H3) (by simp only;omega) ⟨h,aF⟩ (by simp[aF.only,aj,q])
  ·simp[h,List.getElem?_eq_getElem h,dc,ak,aA.plain.all,aj,q];refine AW.draw cc [(18,.n),(19,.n)] (.q 0<|.q 1<|.q 2<|.q 3<|.q 4<|.q 5<|.q 7<|.q 9<|.q 10<|.q 11<|.q 12<|.q 13<|.q 14<|.q 16<|.q 17<|.q 6<|.q 8<|.q 15<|.q 18<|.q 19<|.q 20<|.q 21<|.f<|.one 22<|.f<|.one 23<|.done) (by kernel_rfl) ?_
   simp[h,List.getElem?_eq_getElem h,dc,ak,aj];refine FC.aJ hky ?_;simp[h,List.getElem?_eq_getElem h,dc,ak,aj];refine FC.aJ hfo ?_;simp[h,List.getElem?_eq_getElem h,dc,ak,aj,aA.plain.all];refine⟨aA.nb,EC.aJ (aC.SV (v:=.d (.k (.bool (decide ((⟨⟨x.aa.at_,x.aa.key,fo⟩,1⟩:Item)∈out))))) (by simp only[zz,fz,aA.fz];exact zc)) ?_⟩
   by_cases hm:(⟨⟨x.aa.at_,x.aa.key,fo⟩,1⟩:Item)∈out
   ·rw[if_pos hm]at dK;simp[hm];exact NX.go (i+1,y,H2) (by simp only;omega) ⟨h,by rw[dK];exact aA⟩ (by simp[aA.only,eM,aj,q])
   ·rw[if_neg hm]at dK;simp[hm,aA.plain.all];refine eO.dU (ys:=[ak ⟨⟨x.aa.at_,x.aa.key,fo⟩,1⟩]) fk rfl dZ (by simp) (x:=y) (by simp) aA (by simp[ak,rowsOf]) (by simp) (bp _) (ez _) (by simp only[List.length_map,List.length_singleton];omega) (by simp) λx' H3 aF _ _=>?_
    simp[aF.plain.all,aF.only,eM];rw[cU,<-dK]at aF;exact NX.go (i+1,x',H3) (by simp only;omega) ⟨h,aF⟩ (by simp[aF.only,aj,q])
 ·have:i=l.length:=by omega
  subst this;rw[List.take_length]at aA;simp[aA.plain.all];exact λhz=>⟨H,aL aA.nx aA.ob hw.none,by rw[aA.fz];trivial,aA.fz,rfl⟩
theorem HL(e:bz)(l:List Item)(hn:0<=e.n/\e.n<=1000)(YP:1<=e.fold/\e.fold<=4)(hl:l.length<=1000)(hb:∀x∈l,0<=x.aa.at_/\x.aa.at_<=200/\C6 x):
  aC prog 203 [lv (aS e),sl (l.map ak)] (sl ((eD (ja e.fold e.n (iK e.n) l) l).map ak)):=by
 intro H;have cc:=au (p:=bf [2] [] []);refine aG.bG (au (p:=bf [2] [] [])) func203 rfl call203 (by rw[ntmps203];simp) rfl λhf hw=>?_
 simp[ntmps203,results203,aj]at hf|-;refine AW.aV cc (λs:Nat×LV×GH=>⟨[(1,sl (l.map ak)),(2,.ip ((aS e).map .d) 0),(5,s.2.1),(6,aH s.1)],[],s.2.2⟩) (λs=>l.length-s.1)
  (λs=>s.1<=l.length/\cu 86 4 H s.2.1 ((eD (ja e.fold e.n (iK e.n) l) (l.take s.1)).map ak) s.2.2) (0,.d (.k (.slice none 0 0)),H) ⟨⟨Nat.zero_le _,cu.nil⟩,by simp[aj]⟩ ?_
 rintro⟨i,y,H2⟩ ⟨hi',aA⟩;simp only at hi' aA;simp;refine⟨λh=>?_,λh=>?_⟩
 ·obtain⟨x,dc⟩:∃x,l[i]=x:=⟨_,rfl⟩;obtain⟨hx1,hx2,Wc⟩:=hb x (dc▸List.getElem_mem h);have gx:l.take (i+1)=l.take i++[x]:=by rw[<-aR h,dc]
  have eM:=aB (n:=9223372036854775807) (show i<9223372036854775807 by omega)
  have dK:=kY (ja e.fold e.n (iK e.n) l) (l.take i) x;rw[<-gx]at dK;have GV:=uU (ja e.fold e.n (iK e.n) l) (l.take i);have hlt:(l.take i).length<=i:=by simp;omega
  obtain⟨out,hout⟩:∃out,eD (ja e.fold e.n (iK e.n) l) (l.take i)=out:=⟨_,rfl⟩;rw[hout]at dK aA GV;have hwp:IntKind.i64.wrap (x.aa.at_+1)=x.aa.at_+1:=by rw[wrap64]<;>omega
  have hwn:IntKind.i64.wrap (x.aa.at_+e.n)=x.aa.at_+e.n:=by rw[wrap64]<;>omega
  have lP:=nG l x.aa.key (x.aa.at_+1) (x.aa.at_+e.n) hl;have Sj:=qT l x.aa.key (x.aa.at_+1) (x.aa.at_+e.n);obtain⟨ah,hah⟩:∃ah,dN l x.aa.key (x.aa.at_+1) (x.aa.at_+e.n)=ah:=⟨_,rfl⟩;rw[hah]at lP Sj;simp at lP;simp[h,List.getElem?_eq_getElem h,dc,ak,aA.plain.all,aj,hwp,hwn];refine EC.aJ lP ?_;simp;refine⟨λq=>?_,λq=>?_⟩
  ·have F7:ja e.fold e.n (iK e.n) l x=none:=by
    unfold ja iK;rw[hah];cases ah with
    |nil=>simp at q
    |cons _ _=>rfl
   rw[F7]at dK;exact NX.go (i+1,y,H2) (by simp only;omega) ⟨h,by rw[dK];exact aA⟩ (by simp[aA.only,eM,aj])
  ·have bp3:ah=[]:=by simpa using q
   subst bp3;obtain⟨LOW,aD8⟩:∃LOW,wY e.n l x.aa.key 201 x.aa.at_=LOW:=⟨_,rfl⟩;have hsp:iK e.n l x.aa.key x.aa.at_=some (LOW,x.aa.at_):=by unfold iK;rw[hah,aD8]
   refine AW.aV cc (λu:Bool×Nat×Int=>⟨[(1,sl (l.map ak)),(2,.ip ((aS e).map .d) 0),(5,y),(6,aH i),(7,.lp 7 0),(8,aH u.2.2),(9,.d (.k (.bool u.1)))],[(7,(bE x.aa).map .d)],H2⟩) (λu=>u.2.1+(if u.1 then 1 else 0))
    (λu=>0<=u.2.2/\u.2.2<=200/\(u.1=true->u.2.2<=u.2.1/\wY e.n l x.aa.key u.2.1 u.2.2=LOW)/\(u.1=false->u.2.2=LOW)) (true,201,x.aa.at_) ⟨⟨hx1,hx2,λ_=>⟨by simp only;omega,aD8⟩,λq=>by cases q⟩,by simp[aA.only,aj,bE]⟩ ?_
   rintro⟨more,j,low⟩ ⟨hl0,QG,ht,hff⟩;simp only at hl0 QG ht hff;simp;refine⟨λhm=>?_,λhm=>?_⟩
   ·obtain⟨ht1,ht2⟩:=ht hm;have Si:IntKind.i64.wrap (low-e.n)=low-e.n:=by rw[wrap64]<;>omega
    have hw1:IntKind.i64.wrap (low-1)=low-1:=by rw[wrap64]<;>omega
    have hk2:=nG l x.aa.key (low-e.n) (low-1) hl;have YE:∀z∈dN l x.aa.key (low-e.n) (low-1),0<=z.aa.at_/\z.aa.at_<=low-1:=λz hz=>⟨(hb z (mA.1 hz).1).1,(mA.1 hz).2.2.2⟩
    obtain⟨bk,hbk⟩:∃bk,dN l x.aa.key (low-e.n) (low-1)=bk:=⟨_,rfl⟩;rw[hbk]at hk2 YE;simp at hk2;simp[aj,bE,Si,hw1];refine EC.aJ hk2 ?_;cases bk with
    |nil=>
     simp;refine NX.go (false,j,low) (by simp[hm]) ⟨hl0,QG,(λq=>by cases q),λ_=>?_⟩ (by simp[aA.only,aj,bE])
     cases j with
     |zero=>exact ht2
     |succ j=>rw[wY,hbk]at ht2;exact ht2
    |cons z bk=>
     have hz:=YE z (by simp)
     obtain⟨j',rfl⟩:∃j',j=j'+1:=⟨j-1,by omega⟩
     rw[wY,hbk]at ht2;simp[ak];exact NX.go (true,j',z.aa.at_) (by simp[hm]) ⟨hz.1,by simp only;omega,λ_=>⟨by simp only;omega,ht2⟩,λq=>by cases q⟩ (by simp[aA.only,aj,bE])
   ·have Wn:=hff hm;subst Wn;have F7:ja e.fold e.n (iK e.n) l x=some ⟨x.aa.at_+e.n,x.aa.key,foldI e.fold (dN l x.aa.key low x.aa.at_)⟩:=by
     unfold ja;rw[hsp]
    have hky:=nG l x.aa.key low x.aa.at_ hl;have hfo:=vF e.fold YP (dN l x.aa.key low x.aa.at_) (Nat.le_trans (qT _ _ _ _) hl) λz hz=>(hb z (mA.1 hz).1).2.2
    simp at hky hfo;obtain⟨fo,ad1⟩:∃fo,foldI e.fold (dN l x.aa.key low x.aa.at_)=fo:=⟨_,rfl⟩;rw[ad1]at hfo F7;rw[F7]at dK;simp only at dK;have zc:=Dz out ⟨⟨x.aa.at_+e.n,x.aa.key,fo⟩,1⟩ (by omega)
    simp[ak]at zc;refine AW.draw cc [(15,.n),(16,.n)] (.q 0<|.q 2<|.q 5<|.q 7<|.q 9<|.q 10<|.q 12<|.q 13<|.q 1<|.q 3<|.q 4<|.q 6<|.q 8<|.q 11<|.q 14<|.q 15<|.q 16<|.q 17<|.q 18<|.f<|.one 19<|.f<|.one 20<|.done) (by kernel_rfl) ?_
    simp[aj,bE,hwn];refine FC.aJ hky ?_;simp[aj,bE];refine FC.aJ hfo ?_;simp[ak,aj,aA.plain.all];refine⟨aA.nb,EC.aJ (aC.SV (v:=.d (.k (.bool (decide ((⟨⟨x.aa.at_+e.n,x.aa.key,fo⟩,1⟩:Item)∈out))))) (by simp only[zz,fz,aA.fz];exact zc)) ?_⟩
    by_cases hmm:(⟨⟨x.aa.at_+e.n,x.aa.key,fo⟩,1⟩:Item)∈out
    ·rw[if_pos hmm]at dK;simp[hmm];exact NX.go (i+1,y,H2) (by simp only;omega) ⟨h,by rw[dK];exact aA⟩ (by simp[aA.only,eM,aj])
    ·rw[if_neg hmm]at dK;simp[hmm,aA.plain.all];refine eO.dU (ys:=[ak ⟨⟨x.aa.at_+e.n,x.aa.key,fo⟩,1⟩]) fk rfl dZ (by simp) (x:=y) (by simp) aA (by simp[ak,rowsOf]) (by simp) (bp _) (ez _) (by simp only[List.length_map,List.length_singleton];omega) (by simp) λx' H3 aF _ _=>?_
     simp[aF.plain.all,aF.only,eM];rw[cU,<-dK]at aF;exact NX.go (i+1,x',H3) (by simp only;omega) ⟨h,aF⟩ (by simp[aF.only,aj])
 ·have:i=l.length:=by omega
  subst this;rw[List.take_length]at aA;simp[aA.plain.all];exact λhz=>⟨H,aL aA.nx aA.ob hw.none,by rw[aA.fz];trivial,aA.fz,rfl⟩
def NdB(l:List Item):Prop:=l.Pairwise λa b=>cO b.aa a.aa=false
theorem AG{a b:Rec}(h:cO a b=true):cO b a=false:=by
 cases q:cO b a with
 |false=>rfl
 |true=>have:=kS h q;rw[oJ]at this;cases this
theorem IC{a b c:Rec}(h:cO b a=false)(k:cO c b=false):cO c a=false:=by
 simp only[cO,decide_eq_false_iff_not]at*;omega
def FN:Nat->List Item->List Item->List Item
 |0,a,b=>a++b
 |_+1,[],b=>b
 |_+1,x::a,[]=>x::a
 |f+1,x::a,y::b=>if cO y.aa x.aa=true then y::FN f (x::a) b else x::FN f a (y::b)
def IF(a b:List Item):List Item:=FN (a.length+b.length) a b
theorem FM(b:List Item):IF [] b=b:=by
 unfold IF;cases b with
 |nil=>rfl
 |cons y b=>simp only[List.length_nil,List.length_cons,Nat.zero_add];rfl
theorem A0(a:List Item):IF a []=a:=by
 unfold IF;cases a with
 |nil=>rfl
 |cons x a=>simp only[List.length_nil,List.length_cons,Nat.add_zero];rfl
theorem A1(x y:Item)(a b:List Item):IF (x::a) (y::b)=if cO y.aa x.aa=true then y::IF (x::a) b else x::IF a (y::b):=by
 have e:(x::a).length+(y::b).length=(a.length+1+b.length)+1:=by simp only[List.length_cons];omega
 have e2:a.length+(y::b).length=a.length+1+b.length:=by simp only[List.length_cons];omega
 unfold IF;rw[e,e2,FN];rfl
theorem rU:∀(N:Nat) (a b:List Item),a.length+b.length<=N->(IF a b).Perm (a++b)
 |_,[],b,_=>by rw[FM];exact .refl _
 |_,x::a,[],_=>by rw[A0];simp
 |0,x::a,y::b,h=>by simp at h
 |N+1,x::a,y::b,h=>by
  rw[A1];simp only[List.length_cons]at h
  split
  ·exact((rU N (x::a) b (by simp only[List.length_cons];omega)).cons y).trans List.perm_middle.symm
  ·exact(rU N a (y::b) (by simp only[List.length_cons];omega)).cons x
theorem L7:∀(N:Nat) (a b:List Item),a.length+b.length<=N->NdB a->NdB b->NdB (IF a b)
 |_,[],b,_,_,hb=>by rw[FM];exact hb
 |_,x::a,[],_,ha,_=>by rw[A0];exact ha
 |0,x::a,y::b,h,_,_=>by simp at h
 |N+1,x::a,y::b,h,ha,hb=>by
  rw[A1];simp only[List.length_cons]at h;have ha':=List.pairwise_cons.1 ha;have hb':=List.pairwise_cons.1 hb
  split
  ·rename_i q;refine List.pairwise_cons.2 ⟨λz hz=>?_,L7 N (x::a) b (by simp only[List.length_cons];omega) ha hb'.2⟩
   have qD:=(rU _ (x::a) b (Nat.le_refl _)).mem_iff.1 hz;rcases List.mem_append.1 qD with w|w
   ·rcases List.mem_cons.1 w with w|w
    ·rw[w];exact AG q
    ·exact IC (AG q) (ha'.1 z w)
   ·exact hb'.1 z w
  ·rename_i q;have q:cO y.aa x.aa=false:=by simpa using q
   refine List.pairwise_cons.2 ⟨λz hz=>?_,L7 N a (y::b) (by simp only[List.length_cons];omega) ha'.2 hb⟩
   have qD:=(rU _ a (y::b) (Nat.le_refl _)).mem_iff.1 hz;rcases List.mem_append.1 qD with w|w
   ·exact ha'.1 z w
   ·rcases List.mem_cons.1 w with w|w
    ·rw[w];exact q
    ·exact IC q (hb'.1 z w)
theorem pQ:∀(N:Nat) (l:List Item),l.length<N->l.length<=1000000->∃l':List Item,l'.Perm l/\NdB l'/\aC prog 84 [sl (l.map ak)] (sl (l'.map ak))
 |0,l,h,_=>absurd h (by omega)
 |N+1,l,hN,hM=>by
  by_cases h2:l.length<2
  ·refine⟨l,.refl _,?_,?_⟩
   ·match l,h2 with
    |[],_=>exact .nil
    |[x],_=>exact List.pairwise_singleton _ _
    |x::y::t,h=>exact absurd h (by simp)
   ·intro H;have cc:=au (p:=bf [] [] []);refine aG.bG (au (p:=bf [] [] [])) func84 rfl call84 (by rw[ntmps84];simp) rfl λhf hw=>?_
    have ze:(l.length:Int)<2:=by omega
    simp[ntmps84,results84,ze];refine eO.dU (ys:=l.map ak) (H0:=H) (rows:=[]) (x:=.d (.k (.slice none 0 0))) fk rfl dZ (by simp) (by simp) cu.nil (by simp[rowsOf]) (by simp) (by simp) (bp _) (by simp;omega) (by simp) λx' H3 aF _ _=>?_
    simp[aF.plain.all];exact λhz=>⟨H,aL aF.nx aF.ob hw.none,by rw[aF.fz];simp[LV.nb],by rw[aF.fz];rfl,rfl⟩
  ·obtain⟨n,hn⟩:∃n,l.length / 2=n:=⟨_,rfl⟩;obtain⟨a,pa,na,fa⟩:=pQ N (l.take n) (by simp;omega) (by simp;omega)
   obtain⟨b,pb,nb,fb⟩:=pQ N (l.drop n) (by simp;omega) (by simp;omega)
   have hpl:(a++b).Perm l:=(pa.append pb).trans (by rw[List.take_append_drop])
   have zp:a.length=n:=by rw[pa.length_eq];simp;omega
   have CI:b.length=l.length-n:=by rw[pb.length_eq];simp
   refine⟨IF a b,(rU _ a b (Nat.le_refl _)).trans hpl,L7 _ a b (Nat.le_refl _) na nb,?_⟩;intro H;have cc:=au (p:=bf [] [] []);refine aG.bG (au (p:=bf [] [] [])) func84 rfl call84 (by rw[ntmps84];simp) rfl λhf hw=>?_
   have ze:¬(l.length:Int)<2:=by omega
   have hdiv:(l.length:Int) / 2=n:=by omega
   have hnl:n<=l.length:=by omega
   simp at fa fb;simp[ntmps84,results84,ze];refine AW.draw cc [(5,.n),(11,.n)] (.q 0<|.q 1<|.q 6<|.q 7<|.q 2<|.q 3<|.q 4<|.q 5<|.q 8<|.q 9<|.q 10<|.q 11<|.q 12<|.q 13<|.done) (by kernel_rfl) ?_
   have hwd:IntKind.i64.wrap ((l.length:Int) / 2)=n:=by rw[wrap64]<;>omega
   simp[hwd,hnl];refine FC.aJ fa ?_;simp[hwd,hnl];refine FC.aJ fb ?_;simp[hwd,hnl];refine AW.aV cc (λst:List Item×List Item×List Item×LV×GH=>⟨[(3,sl (st.1.map ak)),(4,sl (st.2.1.map ak)),(5,st.2.2.2.1)],[],st.2.2.2.2⟩) (λst=>st.1.length+st.2.1.length)
    (λst=>st.2.2.1.length+st.1.length+st.2.1.length=l.length/\cu 86 4 H st.2.2.2.1 (st.2.2.1.map ak) st.2.2.2.2/\st.2.2.1++IF st.1 st.2.1=IF a b) (a,b,[],.d (.k (.slice none 0 0)),H) ⟨⟨by simp only[List.length_nil];omega,cu.nil,rfl⟩,by simp⟩ ?_
   rintro⟨a1,b1,out,x,H2⟩ ⟨hlen,aA,hM⟩;simp only at hlen aA hM;simp
   match a1,b1,hlen,hM with
   |[],b1,hlen,hM=>
    simp[aA.plain.all];refine eO.dU (ys:=([]:List Item).map ak) fk rfl dZ (by simp) (x:=x) (by simp) aA (by simp[rowsOf]) (by simp) (bp _) (bp _) (by simp at hlen|-;omega) (by simp) λx2 H3 fJ _ _=>?_
    simp[fJ.plain.all];refine eO.dU (ys:=b1.map ak) fk rfl dZ (by simp) (x:=x2) (by simp) fJ (by simp[rowsOf]) (by simp) (by rw[<-List.map_append];exact bp _) (bp _) (by simp at hlen|-;omega) (by simp) λx3 H4 wg _ _=>?_
    simp[wg.plain.all];have hout:out++b1=IF a b:=by rw[<-hM,FM]
    have hfz:fz x3=.d (.sl ((IF a b).map ak)):=by rw[wg.fz,<-hout];simp
    exact λhz=>⟨H,aL wg.nx wg.ob hw.none,by rw[hfz];trivial,hfz,rfl⟩
   |x1::a1,[],hlen,hM=>
    simp[aA.plain.all];refine eO.dU (ys:=(x1::a1).map ak) fk rfl dZ (by simp) (x:=x) (by simp) aA (by simp[rowsOf]) (by simp) (bp _) (bp _) (by simp at hlen|-;omega) (by simp) λx2 H3 fJ _ _=>?_
    simp[fJ.plain.all];refine eO.dU (ys:=([]:List Item).map ak) fk rfl dZ (by simp) (x:=x2) (by simp) fJ (by simp[rowsOf]) (by simp) (by rw[<-List.map_append];exact bp _) (bp _) (by simp at hlen|-;omega) (by simp) λx3 H4 wg _ _=>?_
    simp[wg.plain.all];have hout:out++(x1::a1)=IF a b:=by rw[<-hM,A0]
    have hfz:fz x3=.d (.sl ((IF a b).map ak)):=by rw[wg.fz,<-hout];simp
    exact λhz=>⟨H,aL wg.nx wg.ob hw.none,by rw[hfz];trivial,hfz,rfl⟩
   |x1::a1,y1::b1,hlen,hM=>
    have hls:=Am y1.aa x1.aa;simp[bE]at hls;rw[A1]at hM;simp;refine AW.draw cc [(8,.n)] (.q 0<|.q 1<|.q 2<|.q 4<|.q 5<|.q 6<|.q 3<|.q 7<|.q 8<|.done) (by kernel_rfl) ?_
    simp[ak];refine FC.aJ hls ?_;cases hq:cO y1.aa x1.aa with
    |true=>
     rw[if_pos hq]at hM;simp[aA.plain.all,ak];refine eO.dU (ys:=[ak y1]) fk rfl dZ (by simp) (x:=x) (by simp) aA (by simp[rowsOf,ak]) (by simp) (bp _) (by simp) (by simp at hlen|-;omega) (by simp) λx2 H3 fJ _ _=>?_
     simp[fJ.plain.all];refine⟨by omega,?_⟩
     rw[show out.map ak++[ak y1]=(out++[y1]).map ak by simp]at fJ
     exact NX.go (x1::a1,b1,out++[y1],x2,H3) (by simp only[List.length_cons];omega) ⟨by simp only[List.length_cons,List.length_append,List.length_nil]at hlen|-;omega,fJ,by rw[List.append_assoc];exact hM⟩ (by simp[fJ.only,ak])
    |false=>
     rw[if_neg (by rw[hq];simp)]at hM
     simp[aA.plain.all,ak];refine eO.dU (ys:=[ak x1]) fk rfl dZ (by simp) (x:=x) (by simp) aA (by simp[rowsOf,ak]) (by simp) (bp _) (by simp) (by simp at hlen|-;omega) (by simp) λx2 H3 fJ _ _=>?_
     simp[fJ.plain.all];refine⟨by omega,?_⟩
     rw[show out.map ak++[ak x1]=(out++[x1]).map ak by simp]at fJ
     exact NX.go (a1,y1::b1,out++[x1],x2,H3) (by simp only[List.length_cons];omega) ⟨by simp only[List.length_cons,List.length_append,List.length_nil]at hlen|-;omega,fJ,by rw[List.append_assoc];exact hM⟩ (by simp[fJ.only,ak])
def Dt(out:List Item)(x:Item):List Item:=match out.getLast? with
 |none=>out++[x]
 |some y=>if y.aa=x.aa then out.dropLast++[⟨y.aa,y.n+x.n⟩]else out++[x]
def ou(l:List Item):List Item:=l.foldl Dt []
theorem pp(l:List Item)(x:Item):ou (l++[x])=Dt (ou l) x:=by unfold ou;rw[List.foldl_append];rfl
theorem mE(out:List Item)(y x:Item):Dt (out++[y]) x=if y.aa=x.aa then out++[⟨y.aa,y.n+x.n⟩]else out++[y]++[x]:=by
 unfold Dt;rw[List.getLast?_concat,List.dropLast_concat]
theorem oz(x:Item):Dt [] x=[x]:=rfl
theorem OV(out:List Item)(x:Item)(r:Rec):bS (Dt out x) r=bS out r+(if x.aa=r then x.n else 0):=by
 rcases List.eq_nil_or_concat out with rfl|⟨l,y,rfl⟩
 ·rw[oz];simp[bS]
 ·rw[List.concat_eq_append,mE]
  split
  ·rename_i e;rw[lq,lq];simp only[bS,e]
   split<;>omega
  ·rw[lq];simp only[bS];omega
theorem TM(r:Rec):∀l:List Item,bS (ou l) r=bS l r:=by
 refine iI rfl λl x ih=>?_
 rw[pp,OV,ih,lq];simp[bS]
theorem Ku:∀l:List Item,NdB l->pG (ou l)/\(ou l).map (·.aa)⊆l.map (·.aa)/\(ou l).getLast?.map (·.aa)=l.getLast?.map (·.aa):=by
 refine iI (λ_=>⟨.nil,by simp[ou],rfl⟩) λl x ih h=>?_
 have h':=List.pairwise_append.1 h;obtain⟨i1,i2,i3⟩:=ih h'.1;rw[pp];rcases List.eq_nil_or_concat (ou l)with e|⟨o,y,e⟩
 ·rw[e,oz];refine⟨List.pairwise_singleton _ _,by simp,by simp⟩
 ·rw[List.concat_eq_append]at e;rw[e]at i1 i2 i3|-;have hym:y.aa∈l.map (·.aa):=i2 (by simp)
  have hle:∀z∈l,cO x.aa z.aa=false:=λz hz=>h'.2.2 z hz x (by simp)
  have hyx:cO x.aa y.aa=false:=by
   obtain⟨z,hz,e⟩:=List.mem_map.1 hym;rw[<-e];exact hle z hz
  have hi:=List.pairwise_append.1 i1;rw[mE]
  split
  ·rename_i q;refine⟨List.pairwise_append.2 ⟨hi.1,List.pairwise_singleton _ _,λz hz w hw=>?_⟩,?_,?_⟩
   ·rw[List.mem_singleton.1 hw];exact hi.2.2 z hz y (by simp)
   ·intro r hr;rw[List.map_append]at hr|-;refine List.mem_append_left _ ?_;rcases List.mem_append.1 hr with w|w
    ·exact i2 (by rw[List.map_append];exact List.mem_append_left _ w)
    ·simp at w;rw[w];exact hym
   ·rw[List.getLast?_concat,List.getLast?_concat];simp[q]
  ·rename_i q;have hlt:cO y.aa x.aa=true:=by
    cases w:cO y.aa x.aa with
    |true=>rfl
    |false=>exact absurd (wQ w hyx) q
   refine⟨List.pairwise_append.2 ⟨i1,List.pairwise_singleton _ _,λz hz w hw=>?_⟩,?_,by rw[List.getLast?_concat,List.getLast?_concat]⟩
   ·rw[List.mem_singleton.1 hw];rcases List.mem_append.1 hz with v|v
    ·exact kS (hi.2.2 z v y (by simp)) hlt
    ·rw[List.mem_singleton.1 v];exact hlt
   ·intro r hr;rw[List.map_append]at hr|-;rcases List.mem_append.1 hr with w|w
    ·exact List.mem_append_left _ (i2 w)
    ·exact List.mem_append_right _ w
theorem W7{l l':List Item}(hp:l'.Perm l)(hn:NdB l'):(ou l').filter (λx=>decide (x.n≠0))=nw l:=by
 refine wA ((Ku l' hn).1.filter _) (λx hx=>by simpa using(List.mem_filter.1 hx).2) λr=>?_
 have h1:=(Ku l' hn).1;have h2:bS ((ou l').filter λx=>decide (x.n≠0)) r=bS (ou l') r:=by
  have:∀L:List Item,bS (L.filter λx=>decide (x.n≠0)) r=bS L r:=λL=>by
   induction L with
   |nil=>rfl
   |cons x L ih=>
    by_cases e:x.n=0
    ·rw[List.filter_cons_of_neg (by simp[e]),ih,bS]
     split<;>omega
    ·rw[List.filter_cons_of_pos (by simp[e]),bS,bS,ih]
  exact this _
 rw[h2,TM];exact xH hp r
theorem TL(l:List Item):(ou l).length<=l.length:=by
 revert l
 refine iI (by simp[ou]) λl x ih=>?_
 rw[pp];rcases List.eq_nil_or_concat (ou l)with e|⟨o,y,e⟩
 ·rw[e,oz];simp
 ·rw[List.concat_eq_append]at e;rw[e]at ih|-;rw[mE];simp at ih
  split<;>simp<;>omega
theorem W8{M:Int}(hM:0<=M):∀l:List Item,(∀x∈l,1<=x.n/\x.n<=M)->∀x∈ou l,1<=x.n/\x.n<=M*l.length:=by
 refine iI (λ_ x hx=>absurd hx (by simp[ou])) λl x ih h=>?_
 have ih:=ih λy hy=>h y (List.mem_append_left _ hy)
 have hx:=h x (by simp)
 have hml:M*((l.length:Int)+1)=M*l.length+M:=by rw[Int.mul_add,Int.mul_one]
 have h0:0<=M*(l.length:Int):=Int.mul_nonneg hM (by omega)
 rw[pp];intro z hz;rw[List.length_append,List.length_singleton]
 push_cast
 rw[hml];rcases List.eq_nil_or_concat (ou l)with e|⟨o,y,e⟩
 ·rw[e,oz,List.mem_singleton]at hz;rw[hz];omega
 ·rw[List.concat_eq_append]at e;rw[e]at ih hz;rw[mE]at hz;have hy:=ih y (by simp)
  split at hz
  ·rcases List.mem_append.1 hz with q|q
   ·have:=ih z (List.mem_append_left _ q);omega
   ·rw[List.mem_singleton.1 q];simp only;omega
  ·rcases List.mem_append.1 hz with q|q
   ·have:=ih z q;omega
   ·rw[List.mem_singleton.1 q];omega
theorem HY(l:List Item)(hl:l.length<=1000000)(hn:∀x∈l,1<=x.n/\x.n<=1000000000000):aC prog 37 [sl (l.map ak)] (b9 (nw l)):=by
 intro H;obtain⟨l',hp,qQ,ax3⟩:=pQ (l.length+1) l (Nat.lt_succ_self _) hl;have Wo:l'.length=l.length:=hp.length_eq;have hn':∀x∈l',1<=x.n/\x.n<=1000000000000:=λx hx=>hn x (hp.mem_iff.1 hx)
 have cc:=jG (p:=bf [] [] [46]);refine aG.dG (jG (p:=bf [] [] [46])) func37 rfl call37 (by rw[ntmps37];simp) rfl λhf hw=>?_
 simp at ax3;simp[ntmps37,results37];refine AW.seq cc ?_;simp;refine AW.seq cc ?_;simp;refine AW.seq cc ?_;simp;refine EC.aJ ax3 ?_;simp;refine AW.aV cc (λst:Nat×LV×GH=>⟨[(3,st.2.1),(11,sl (l'.map ak)),(12,aH l'.length),(13,aH st.1)],[],st.2.2⟩) (λst=>l'.length-st.1)
  (λst=>st.1<=l'.length/\lB 86 4 H st.2.1 ((ou (l'.take st.1)).map ak) st.2.2) (0,.d (.k (.slice none 0 0)),H) ⟨⟨Nat.zero_le _,lB.nil⟩,by simp⟩ ?_
 rintro⟨i,y,H2⟩ ⟨hi,aA⟩;simp only at hi aA;have zp:=TL (l'.take i);have htl:(l'.take i).length<=i:=by simp;omega
 simp;refine⟨λh=>?_,λh=>?_⟩
 ·obtain⟨x,hx⟩:∃x,l'[i]=x:=⟨_,rfl⟩;have Wd:x∈l':=hx▸List.getElem_mem h;have hta:l'.take (i+1)=l'.take i++[x]:=by rw[<-aR h,hx]
  have dK:=pp (l'.take i) x;rw[<-hta]at dK;have hbd:=W8 (M:=1000000000000) (by omega) (l'.take i) λz hz=>hn' z (List.mem_of_mem_take hz)
  have eM:=aB (n:=9223372036854775807) (show i<9223372036854775807 by omega)
  obtain⟨O,hO⟩:∃O,ou (l'.take i)=O:=⟨_,rfl⟩;rw[hO]at dK aA zp hbd;have hr4:∀r∈O.map ak,r.length=4:=bp _;rcases id aA.is with⟨k1,k2⟩|⟨nv,gv,k1,k2,k3,k4,k5⟩
  ·have hO0:O=[]:=by simpa using k1
   subst hO0;subst k2;rw[oz]at dK;simp[h,List.getElem?_eq_getElem h,hx,ak];refine AW.draw cc [] (.q 0<|.q 1<|.q 2<|.q 3<|.q 4<|.q 5<|.q 6<|.q 7<|.q 9<|.q 8<|.q 10<|.q 11<|.q 12<|.done) (by kernel_rfl) ?_
   simp[ak];refine eO.Kr (ys:=[ak x]) vu rfl dZ (by simp) (x:=.d (.k (.slice none 0 0))) (by simp) aA (by simp[ak,rowsOf]) (by simp) (bp _) (λr hr=>by simp only[List.mem_singleton]at hr;subst hr;rfl) (by simp) (by simp) λx' H3 aF _ _=>?_
   simp[aF.plain.all,aF.only,eM];refine NX.go (i+1,x',H3) (by simp only;omega) ⟨h,?_⟩ (by simp[aF.only])
   rw[dK];exact aF
  ·rcases List.eq_nil_or_concat O with e|⟨o,w,e⟩
   ·subst e;exact absurd rfl k5
   ·rw[List.concat_eq_append]at e;subst e;rw[mE]at dK;subst k3;have hol:(o++[w]).length=o.length+1:=by simp
    have hwo:IntKind.i64.wrap (o.length:Int)=o.length:=by rw[wrap64]<;>omega
    obtain⟨F,hF⟩:∃F,bM (o.map ak)=F:=⟨_,rfl⟩;have hfl:bM (o.map ak++[ak w])=F++[aH w.aa.at_,aH w.aa.key,aH w.aa.val,aH w.n]:=by rw[<-hF];simp[bM,ak]
    have WC:F.length=o.length*4:=by rw[<-hF];exact oW (f:=ak) (λ_=>rfl) o
    have vj:∀B:List LV,List.drop (o.length*4) (F++B)=B:=λB=>by rw[<-WC,List.drop_left]
    have aC1:∀a b c d:LV,List.drop (o.length*4+3) (F++[a,b,c,d])=[d]:=λa b c d=>by rw[<-List.drop_drop,vj];rfl
    have bj6:∀a b c d:LV,List.take (o.length*4+3) (F++[a,b,c,d])=F++[a,b,c]:=λa b c d=>by rw[<-WC,List.take_length_add_append];rfl
    have bo1:∀a b c d:LV,List.drop (o.length*4+3+1) (F++[a,b,c,d])=[]:=λa b c d=>List.drop_eq_nil_of_le (by simp;omega)
    simp[h,List.getElem?_eq_getElem h,hx,ak];refine AW.draw cc [] (.q 0<|.q 1<|.q 2<|.q 3<|.q 4<|.q 5<|.q 6<|.q 7<|.q 9<|.q 8<|.q 10<|.q 11<|.q 12<|.done) (by kernel_rfl) ?_
    simp[k4,hwo,hfl,vj,aC1,WC];refine⟨by omega,λq1 q2 q3=>?_,λq=>?_⟩
    ·have hr:w.aa=x.aa:=by
      obtain⟨⟨a1,a2,a3⟩,_⟩:=w;obtain⟨⟨b1,b2,b3⟩,_⟩:=x;simp at q1 q2 q3|-;exact⟨q1,q2,q3⟩
     rw[if_pos hr]at dK;have MD:=hbd w (by simp)
     have MC:=hn' x Wd;have hwn:IntKind.i64.wrap (w.n+x.n)=w.n+x.n:=by
      have:(1000000000000:Int)*((l'.take i).length:Int)<=1000000000000*1000000:=by
       refine Int.mul_le_mul_of_nonneg_left ?_ (by omega)
       omega
      rw[wrap64]<;>omega
     refine AW.draw cc [] (.q 0<|.q 1<|.q 2<|.q 3<|.q 4<|.q 6<|.q 5<|.q 7<|.q 8<|.q 9<|.q 10<|.f<|.one 11<|.done) (by kernel_rfl) ?_
     simp[k4,hwo,hfl,vj,aC1,WC,hwn,bj6,bo1,eM];refine⟨by omega,?_⟩
     refine NX.go (i+1,.vs nv gv 4 0 (o.length+1),H2.set nv (.vec 86 gv 4 (bM ((o++[(⟨w.aa,w.n+x.n⟩:Item)]).map ak)) false)) (by simp only;omega) ⟨h,?_⟩ (by simp[bM,ak,<-hF])
     rw[dK];refine⟨.inr ⟨nv,gv,k1,by rw[GH.aM];exact k2,by simp,by rw[GH.ay,if_pos rfl],by simp⟩,by rw[GH.aM];exact aA.nx,λm hm=>by rw[GH.ay,if_neg (by omega)];exact aA.ob m hm⟩
    ·have hr:¬w.aa=x.aa:=λe=>q (by rw[e]) (by rw[e]) (by rw[e])
     rw[if_neg hr]at dK;refine eO.Kr (ys:=[ak x]) (rows:=(o++[w]).map ak) vu rfl dZ (by simp) (x:=.vs nv gv 4 0 (o.length+1)) (by simp) (by simpa using aA) (by simp[ak,rowsOf]) (by simp) (bp _) (λr hr=>by simp only[List.mem_singleton]at hr;subst hr;rfl) (by simp;omega) (by simp) λx' H3 aF _ _=>?_
     simp[aF.plain.all,aF.only,eM];refine NX.go (i+1,x',H3) (by simp only;omega) ⟨h,?_⟩ (by simp[aF.only])
     rw[dK];simpa using aF
 ·have:i=l'.length:=by omega
  subst this;rw[List.take_length]at aA zp;obtain⟨M,hM⟩:∃M,ou l'=M:=⟨_,rfl⟩;rw[hM]at aA zp;have zq:=W7 hp qQ;rw[hM]at zq;rcases id aA.is with⟨k1,k2⟩|⟨nv,gv,k1,k2,k3,k4,k5⟩
  ·have hM0:M=[]:=by simpa using k1
   subst hM0;subst k2;refine AW.ev cc ?_;simp;refine AW.aV cc (λst:Nat=>⟨[(7,.d (.k (.slice none 0 0))),(48,.d (.k (.slice none 0 0))),(49,aH (0:Nat)),(50,aH (0:Nat))],[],H2⟩) (λst=>0) (λst=>True) 0 ⟨trivial,by simp⟩ ?_
   rintro j _;simp;exact λhz=>⟨aL aA.nx aA.ob hw.none,by rw[<-zq];rfl⟩
  ·subst k3;refine AW.cM (n:=nv) (g:=gv) (sz:=4) (e:=86) (ex:=false) (M.map ak) k4 rfl (bp _) ?_;refine AW.ev cc ?_;obtain⟨H4,NW⟩:∃H4:GH,({obj:=λm=>if m=nv then none else Option.map (GO.cM nv gv 4 (List.map ak M)) (H2.obj m),next:=H2.next}:GH)=H4:=⟨_,rfl⟩
   have Uf:∀m,m<H.next->H4.obj m=H.obj m:=λm hm=>by rw[<-NW];exact kH hw k1 (λk hk=>aA.ob k hk) hm
   have hnf:H.next<=H4.next:=by rw[<-NW];exact aA.nx
   simp;rw[NW];refine AW.aV cc (λst:Nat×LV×GH=>⟨[(7,st.2.1),(48,sl (M.map ak)),(49,aH M.length),(50,aH st.1)],[],st.2.2⟩) (λst=>M.length-st.1)
    (λst=>st.1<=M.length/\cu 86 4 H4 st.2.1 (((M.take st.1).filter λx=>decide (x.n≠0)).map ak) st.2.2) (0,.d (.k (.slice none 0 0)),H4) ⟨⟨Nat.zero_le _,by simpa using cu.nil⟩,by simp[List.take_of_length_le]⟩ ?_
   rintro⟨j,z,H3⟩ ⟨hj,fJ⟩;simp only at hj fJ;simp;refine⟨λh=>?_,λh=>?_⟩
   ·obtain⟨x,hx⟩:∃x,M[j]=x:=⟨_,rfl⟩;have hta:M.take (j+1)=M.take j++[x]:=by rw[<-aR h,hx]
    have eM:=aB (n:=9223372036854775807) (show j<9223372036854775807 by omega)
    have hlt:((M.take j).filter λx=>decide (x.n≠0)).length<=j:=Nat.le_trans (List.length_filter_le _ _) (by simp;omega)
    have dK:(M.take (j+1)).filter (λx=>decide (x.n≠0))=(M.take j).filter (λx=>decide (x.n≠0))++(if x.n≠0 then[x]else[]):=by
     rw[hta,List.filter_append];by_cases q:x.n=0<;>simp[q]
    simp[h,List.getElem?_eq_getElem h,hx,ak,fJ.plain.all];refine⟨λq=>?_,λq=>?_⟩
    ·refine eO.dU (ys:=[ak x]) vu rfl dZ (by simp) (x:=z) (by simp) fJ (by simp[ak,rowsOf]) (by simp) (bp _) (λr hr=>by simp only[List.mem_singleton]at hr;subst hr;rfl) (by simp only[List.length_map,List.length_singleton];omega) (by simp) λx' H5 aF _ _=>?_
     simp[aF.plain.all,aF.only,eM];refine NX.go (j+1,x',H5) (by simp only;omega) ⟨h,?_⟩ (by simp[aF.only])
     rw[dK,if_pos q,List.map_append];exact aF
    ·rw[if_neg (by simpa using q),List.append_nil]at dK
     exact NX.go (j+1,z,H3) (by simp only;omega) ⟨h,by rw[dK];exact fJ⟩ (by simp[fJ.only,eM])
   ·have:j=M.length:=by omega
    subst this;rw[List.take_length]at fJ;simp[fJ.plain.all];rw[zq]at fJ;exact λhz=>⟨H,aL (Nat.le_trans hnf fJ.nx) (λm hm=>by rw[fJ.ob m (by omega)];exact Uf m hm) hw.none,by rw[fJ.fz];trivial,by rw[fJ.fz];rfl,rfl⟩
end Go.Aft
end
section
set_option maxRecDepth 20000
namespace Go.Aft
open Go.RowKit
open Go.Proofs.Tryz
section
variable {H:Type} {enc:TypeId×Value->H} {w:World}
theorem gG.conv{P:Program}{α β:Type}{n off fuel:Nat}{fs:List Field}{r:α->List DV}{fit:α->Prop}{r':β->List DV}{fit':β->Prop}(h:gG enc P w n fs off r fit fuel)(g:α->β)(hr:∀x,r' (g x)=r x)(hf:∀x,fit x->fit' (g x)):gG enc P w n fs off r' fit' fuel:=
 λcs xs h1 h2=>by
  obtain⟨x,q1,q2⟩:=h cs xs h1 h2;exact⟨g x,by rw[hr];exact q1,λq=>hf x (q2 q)⟩
theorem ZX(fuel:Nat):Rd enc prog w 27 bE (λ_=>True) fuel:=
 Rd.struct underlying27 fuel λf hf=>((gG.cons (n:=3) rfl (Rd.int underlying3 f)<|gG.cons rfl (Rd.int underlying3 f)<|gG.cons rfl (Rd.int underlying3 f)<|gG.nil)).conv (λx=>⟨x.1,x.2.1,x.2.2.1⟩) (λ_=>rfl) (λ_ _=>trivial)
theorem VN:∀fuel,Rd enc prog w 25 bU (λ_=>True) fuel:=λfuel=>by
 induction fuel using Nat.strongRecOn with
 |_ fuel ih=>
  refine Rd.struct underlying25 fuel λf hf=>?_
  refine(gG.cons (n:=3) rfl (Rd.int underlying22 f)<|gG.cons rfl (Rd.int underlying3 f)<|gG.cons rfl (Rd.slice (r:=bU) (fit:=λ_=>True) underlying23 (by decide+kernel) (λx=>?_) f λg hg=>ih g (by omega))<|gG.nil).conv (λx=>.mk x.1 x.2.1 x.2.2.1) (λx=>?_) (λ_ _=>trivial)
  ·rw[s8];decide+kernel
  ·rw[bU,ki];rfl
theorem ZY:∀fuel,Rd enc prog w 68 aS (λ_=>True) fuel:=λfuel=>by
 induction fuel using Nat.strongRecOn with
 |_ fuel ih=>
  refine Rd.struct underlying68 fuel λf hf=>?_
  refine(gG.cons (n:=6) rfl (Rd.int underlying66 f)<|gG.cons rfl (Rd.str underlying9 f)<|gG.cons rfl (Rd.int underlying3 f)<|gG.cons rfl (Rd.int underlying28 f)<|gG.cons rfl (Rd.slice (r:=bU) (fit:=λ_=>True) underlying23 (by decide+kernel) (λx=>?_) f λg hg=>VN g)<|gG.cons rfl (Rd.slice (r:=aS) (fit:=λ_=>True) underlying64 (by decide+kernel) (λx=>?_) f λg hg=>ih g (by omega))<|gG.nil).conv (λx=>.mk x.1 x.2.1 x.2.2.1 x.2.2.2.1 x.2.2.2.2.1 x.2.2.2.2.2.1) (λx=>?_) (λ_ _=>trivial)
  ·rw[s8];decide+kernel
  ·rw[Ie];decide+kernel
  ·rw[aS,ki,wR];rfl
theorem ZZ(fuel:Nat):Rd enc prog w 70 fm (λd=>cN d.name) fuel:=
 Rd.struct underlying70 fuel λf hf=>(gG.cons (n:=7) rfl (Rd.str underlying9 f)<|gG.cons rfl (ZY f)<|gG.nil).conv (λx=>⟨x.1,x.2.1⟩) (λx=>by simp[fm]) (λx h=>h.1)
theorem Fy(fuel:Nat):Rd enc prog w 42 ar WI fuel:=
 Rd.struct underlying42 fuel λf hf=>(gG.cons (n:=2) rfl (Rd.slice (r:=rS) (fit:=cN) underlying39 (by decide+kernel) (λx=>by rw[rS,show prog.cellsOf 9=1 by decide+kernel];rfl) f λg hg=>Rd.str underlying9 g)<|gG.cons rfl (Rd.slice (r:=fm) (fit:=λd=>cN d.name) underlying40 (by decide+kernel) (λx=>by rw[Rv];decide+kernel) f λg hg=>ZZ g)<|gG.nil).conv (λx=>⟨x.1,x.2.1⟩) (λx=>rfl) (λx h s hs=>by
  rcases List.mem_append.1 hs with q|q
  ·exact h.1 s q
  ·obtain⟨d,hd,rfl⟩:=List.mem_map.1 q;exact h.2.1 d hd)
end
end Go.Aft
end
section
set_option maxRecDepth 20000
namespace Go.Aft
open Go.Proofs.Tryz
theorem Fx(a b:Event):aC prog 90 [lv (aQ a),lv (aQ b)] (.d (.k (.bool (decide (Te a b))))):=by
 refine aC.body (au (p:=bf [2,3] [] [])) func90 rfl call90 (by rw[ntmps90];simp) rfl λ_ H=>?_
 simp[ntmps90,results90,aQ,bE];refine⟨λq=>?_,λq=>⟨λq2=>?_,λq2=>?_⟩⟩
 all_goals(unfold Te;omega)
theorem WR:bc jV.ai[1].exp=jV.ai[1].exp::(bc AK++bn [.mk 3 nmB 3 0 [] []]):=rfl
theorem WK:∀x∈bc AK,x∈bc jV.ai[1].exp:=λx hx=>by
 rw[WR];exact List.mem_cons_of_mem _ (List.mem_append_left _ hx)
theorem S8:1<(bc jV.ai[1].exp).length:=by decide+kernel
theorem Ta:(bc (jV.ai[1]'(by decide)).exp)[1]'S8=AK:=rfl
theorem Tb{ai:List cg}(hk:dw jV GX=some ai)(h0:ai.getD 0 []=WS):aC prog 30 [lv (ar jV),sl (GX.map aQ),aH 1,aH 1] (.dh [b9 [⟨⟨10,1,5⟩,1⟩,⟨⟨14,1,12⟩,1⟩],aH 0]):=by
 have hok:=vV tw hk;exact Md jV (oh mX) GX 1 (by decide) 1 S8 tw hk hok.1 hok.2 (by rw[Ta];exact λx hx=>jb mX 1 (by decide) x (WK x hx)) (by rw[Ta];exact S7 _ h0) (by decide)
theorem aC.nzA{P:Program}{f:FuncId}{args:List LV}{v:LV}(h:aC P f (VY args) v):aC P f args v:=λH=>⟨(h H).1,λG w vs h1 h2 h3=>(h H).2 G w vs h1 h2 (GI _ _ h3)⟩
theorem fO:aC prog 17 [] (.d (.k (.bool true))):=by
 have cc:=jG (p:=bf [] [] []);refine aC.body (jG (p:=bf [] [] [])) func17 rfl call17 (by rw[ntmps17];simp) rfl λhf H=>?_
 have hs:=oh mX;obtain⟨b,hk,CI,MD⟩:=WQ;have e1:=V6;have e2:=V7;have e3:=td jV hs GX;have e4:=Mc jV hs;have e5:=Pk jV hs GX 1;have e6:=Tb hk rfl;have e7:=Pm xz ⟨10,1,5⟩ 7;have e8:=D3 2 [⟨⟨10,1,5⟩,3⟩];have e9:=D3 2 [];have v3:gh jV GX=.dh [sl ([[⟨⟨10,1,5⟩,1⟩,⟨⟨14,1,7⟩,1⟩],b,[⟨⟨14,1,7⟩,1⟩]].map bY),aH 0]:=by
  unfold gh;rw[if_pos tw,hk]
 have v4:AN jV=.dh [sl ([[0],[1],[2]].map rT),aH 0]:=by
  unfold AN;rw[if_pos mX,BW]
 have v5:tU jV GX 1=.dh [b9 [⟨⟨11,1,2⟩,1⟩],aH 0]:=by
  unfold tU;rw[if_pos ⟨tw,by omega,by decide⟩,S6]
 have v7:(if I1 xz ⟨10,1,5⟩ 7 then LV.dh [aH (eE ⟨10,1,5⟩ 7 xz),aH 0]else .dh [aH 0,aH 2])=.dh [aH (-3),aH 0]:=by
  rw[if_pos JY.1,JY.2]
 rw[v3]at e3;rw[v4]at e4;rw[v5]at e5;rw[v7]at e7;rw[S9]at e8;rw[PZ]at e9;obtain⟨x,y,hxy⟩:∃x y,lv (ar jV)=.agg [.d x,.d y]:=⟨_,_,rfl⟩;obtain⟨E1,hE1⟩:∃E1,GX.map aQ=E1:=⟨_,rfl⟩;have hEl:0<E1.length:=by rw[<-hE1];decide
 have hE0:E1[0]=aQ ⟨0,1,⟨10,1,5⟩⟩:=by subst hE1;rfl
 rw[hxy]at e1 e3 e4 e5 e6;rw[hE1]at e2 e3 e5 e6;simp[xz,bU,pU,bE]at e7;simp[ak]at e8;simp at e9;simp[b9,ak]at e5 e6;have Bw:List.range' 0 1=[0]:=rfl;have NK:List.range' 0 2=[0,1]:=rfl;simp[ntmps17,results17];refine EC.aJ e1 ?_;simp;refine EC.aJ e2 ?_;simp;refine EC.aJ e3 ?_;simp;refine EC.aJ e4 ?_;simp;refine EC.aJ e5 ?_;simp;refine EC.aJ e6 ?_;have e7':aC prog 13 [.agg [aH 7,aH 0,.d (.sl [[.k (.int .i64 5),.k (.int .i64 0),.k (.slice none 0 0)],[.k (.int .i64 2),.k (.int .i64 0),.k (.slice none 0 0)]])],.agg [aH 10,aH 1,aH 5],aH 7] (.dh [aH (-3),aH 0]):=aC.nzA (by simpa[VY,LV.nz,DV.nz,QD,VZ]using e7)
 simp[NK,hE0,aQ,bE,hEl];refine EC.aJ e7' ?_;simp[Bw,hE0,aQ,bE,hEl];refine EC.aJ e8 ?_;simp;have e9':aC prog 15 [aH 2,.d (.k (.slice none 0 0))] (.dh [aH 0,aH 5]):=aC.nzA (by simpa[VY,LV.nz,DV.nz,QD,VZ]using e9)
 refine EC.aJ e9' ?_;simp;refine AW.draw cc [(3,.n),(4,.n),(6,.n),(11,.n),(13,.n),(17,.n),(19,.n),(23,.n),(24,.n),(26,.n),(41,.n)] (.q 0<|.q 1<|.q 3<|.q 4<|.q 5<|.q 2<|.q 6<|.q 7<|.q 8<|.q 9<|.q 11<|.q 12<|.q 10<|.q 13<|.q 14<|.q 15<|.q 16<|.q 17<|.q 18<|.q 19<|.q 20<|.q 21<|.q 22<|.q 23<|.q 24<|.q 25<|.q 26<|.q 27<|.q 28<|.q 29<|.q 30<|.q 31<|.q 32<|.q 33<|.q 34<|.q 35<|.q 36<|.q 37<|.q 41<|.q 38<|.q 39<|.q 40<|.q 42<|.q 43<|.q 44<|.done) (by kernel_rfl) ?_
 have i1:=rW 10 1 5;have i2:=rW 14 1 7;have i3:=rW 11 1 2;have i4:=rW 14 1 12;have i5:=rW 13 1 5;simp[ak]at i1 i2 i3 i4 i5;have s1:=nh [⟨⟨10,1,5⟩,1⟩,⟨⟨14,1,7⟩,1⟩] [⟨⟨10,1,5⟩,1⟩,⟨⟨14,1,7⟩,1⟩];have s2:=nh [⟨⟨14,1,7⟩,1⟩] [⟨⟨14,1,7⟩,1⟩];have s3:=nh [⟨⟨11,1,2⟩,1⟩] [⟨⟨11,1,2⟩,1⟩];have s4:=nh [⟨⟨10,1,5⟩,1⟩,⟨⟨14,1,12⟩,1⟩] [⟨⟨10,1,5⟩,1⟩,⟨⟨14,1,12⟩,1⟩];simp[ak]at s1 s2 s3 s4;have aD0:b[1]'(by omega)=⟨⟨13,1,5⟩,1⟩:=by rw[List.getElem?_eq_getElem (show 1<b.length by omega)]at MD;exact Option.some.inj MD
 have aC8:1<b.length:=by omega
 simp[Bw,NK,bY,ak];refine FC.aJ i1 ?_;simp;refine FC.aJ i2 ?_;simp[Bw,NK,bY,ak];refine FC.aJ s1 ?_;simp;refine kN.aJ (λ_=>i2) ?_
 simp[Bw,NK,bY,ak];refine kN.aJ (λ_=>s2) ?_
 simp;refine kN.aJ (λ_=>i3) ?_
 simp[Bw,NK,bY,ak];refine kN.aJ (λ_=>s3) ?_
 simp;refine kN.aJ (λ_=>i1) ?_
 simp;refine kN.aJ (λ_=>i4) ?_
 simp[Bw,NK,bY,ak];refine kN.aJ (λ_=>s4) ?_
 have Wz:(4:Int)<b.length:=by omega
 simp[CI,aC8,Wz,aD0,ak];refine kN.aJ (λ_=>i5) ?_
 simp[CI,aC8,Wz,aD0,ak];omega
end Go.Aft
end
