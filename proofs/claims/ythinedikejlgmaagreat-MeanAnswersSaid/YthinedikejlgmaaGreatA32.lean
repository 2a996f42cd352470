import Derived.Test.YthinedikejlgmaaGreatA31
import Derived.Test.YthinedikejlgmaaGreatA22
import Derived.Test.YthinedikejlgmaaGreatA29
set_option linter.all false
section
set_option maxRecDepth 20000
namespace Go.Aft
mutual
theorem vok_of{other:Bool}:∀(c:bc) (depth left l:Int),dy other c depth left=some l->uK c
 |.mk op n kids,depth,left,l,h=>by
  rw[dy]at h
  split at h
  ·rename_i hc;obtain⟨_,_,hk⟩:=hc;unfold fk at hk
   split at hk
   ·have:=of_decide_eq_true hk;exact .leaf op n kids (by omega) (by omega)
   ·split at hk
    ·have:=of_decide_eq_true hk;exact .leaf op n kids (by omega) (by omega)
    ·split at hk
     ·have:=of_decide_eq_true hk;exact .leaf op n kids (by omega) (by omega)
     ·have:=of_decide_eq_true hk;have hv:=El kids _ _ _ h
      match kids,this.2.2.2,hv with
      |[a,b],_,hv=>exact .node op n a b this.1 (hv a (by simp)) (hv b (by simp))
  ·cases h
theorem El{other:Bool}:∀(cs:List bc) (depth left l:Int),cp other cs depth left=some l->∀c∈cs,uK c
 |[],_,_,_,_,c,hc=>absurd hc List.not_mem_nil
 |k::ks,depth,left,l,h,c,hc=>by
  rw[cp]at h
  split at h
  ·rename_i l' hl;rcases List.mem_cons.1 hc with q|q
   ·rw[q];exact vok_of k _ _ _ hl
   ·exact El ks _ _ _ h c q
  ·cases h
end
structure tI(p:Prog)(a:Int)(x:bw):Prop where
 ok:gI x.op x.name x.n x.fold x.aD.length x.kids.length=true
 nm:di p.az (an p) a x.op x.name=true
 cs:∀c∈x.aD,uK c
mutual
theorem AL{p:Prog}{a:Int}:∀(e:bw) (d l l':Int),fF p.az (an p) a e d l=some l'->∀x∈bn e,tI p a x
 |.mk op name n fold aD kids,d,l,l',h,x,hx=>by
  rw[fF]at h
  split at h
  ·rename_i hc
   split at h
   ·rename_i l1 Dr;rw[bn]at hx;rcases List.mem_cons.1 hx with q|hx
    ·rw[q];exact⟨hc.2.2.1,hc.2.2.2,El _ _ _ _ Dr⟩
    ·exact xJ kids _ _ _ h x hx
   ·cases h
  ·cases h
theorem xJ{p:Prog}{a:Int}:∀(es:List bw) (d l l':Int),eO p.az (an p) a es d l=some l'->∀x∈bu es,tI p a x
 |[],d,l,l',h,x,hx=>by rw[bu]at hx;cases hx
 |e::es,d,l,l',h,x,hx=>by
  rw[eO]at h
  split at h
  ·rename_i l1 Dr;rw[bu]at hx;rcases List.mem_append.1 hx with hx|hx
   ·exact AL e _ _ _ Dr x hx
   ·exact xJ es _ _ _ h x hx
  ·cases h
end
theorem jf{p:Prog}(hp:formed p){i:Nat}(h:i<p.aj.length):∀x∈bn p.aj[i].exp,tI p i x:=by
 obtain⟨⟨l,hl⟩,_⟩:=hp;unfold fh at hl
 split at hl
 ·obtain⟨l1,l2,q,_⟩:=vh _ _ _ _ hl (by omega) i h
  rw[Int.zero_add]at q;exact AL _ _ _ _ q
 ·cases hl
structure Wo(p:Prog):Prop where
 s1:1<=p.az.length
 s4:p.az.length<=4
 d6:p.aj.length<=6
 dif:oI (p.az++an p)
theorem rD{p:Prog}(hp:formed p):Wo p:=by
 obtain⟨⟨l,hl⟩,_⟩:=hp;unfold fh at hl
 split at hl
 ·rename_i h;exact⟨h.1,h.2.1,h.2.2.1,h.2.2.2⟩
 ·cases hl
theorem tI.node{p:Prog}{a:Int}{x:bw}(h:tI p a x):p8 p x:=by
 have hn:=h.nm;unfold di at hn;refine⟨h.ok,λq=>?_,λq=>?_,h.cs⟩
 ·rw[if_pos q]at hn;exact of_decide_eq_true hn
 ·rcases q with q|q
  ·rw[if_neg (by omega),if_pos q]at hn
   exact(of_decide_eq_true hn).1
  ·rw[if_neg (by omega),if_neg (by omega),if_pos q]at hn
   exact of_decide_eq_true hn
theorem tI.lt{p:Prog}{a:Int}{x:bw}(h:tI p a x)(q:x.op=2):idx (an p) x.name<a:=by
 have hn:=h.nm;unfold di at hn;rw[if_neg (by omega),if_pos q]at hn
 exact(of_decide_eq_true hn).2
theorem tI.bnd{p:Prog}{a:Int}{x:bw}(h:tI p a x):1<=x.op/\x.op<=15/\(x.op=3->1<=x.n/\x.n<=50)/\(x.op=8->1<=x.n)/\(x.op=11->1<=x.n)/\(x.op=9->0<=x.n)/\(x.op=12->0<=x.n)/\(x.op=14->0<=x.n):=by
 obtain⟨s,q1,q2,q3,q4,q5⟩:=qI h.ok;unfold bF at q1;by_cases e0:x.op=1\/ x.op=2
 ·rw[if_pos e0]at q1;obtain rfl:=Option.some.inj q1;dsimp only at q4 q5;omega
 rw[if_neg e0]at q1;by_cases e1:x.op=3
 ·rw[if_pos e1]at q1;obtain rfl:=Option.some.inj q1;dsimp only at q4 q5;omega
 rw[if_neg e1]at q1;by_cases e2:x.op=4
 ·rw[if_pos e2]at q1;obtain rfl:=Option.some.inj q1;dsimp only at q4 q5;omega
 rw[if_neg e2]at q1;by_cases e3:x.op=5
 ·rw[if_pos e3]at q1;obtain rfl:=Option.some.inj q1;dsimp only at q4 q5;omega
 rw[if_neg e3]at q1;by_cases e4:x.op=6
 ·rw[if_pos e4]at q1;obtain rfl:=Option.some.inj q1;dsimp only at q4 q5;omega
 rw[if_neg e4]at q1;by_cases e5:x.op=7
 ·rw[if_pos e5]at q1;obtain rfl:=Option.some.inj q1;dsimp only at q4 q5;omega
 rw[if_neg e5]at q1;by_cases e6:x.op=8\/ x.op=11
 ·rw[if_pos e6]at q1;obtain rfl:=Option.some.inj q1;dsimp only at q4 q5;omega
 rw[if_neg e6]at q1;by_cases e7:x.op=9
 ·rw[if_pos e7]at q1;obtain rfl:=Option.some.inj q1;dsimp only at q4 q5;omega
 rw[if_neg e7]at q1;by_cases e8:x.op=10
 ·rw[if_pos e8]at q1;obtain rfl:=Option.some.inj q1;dsimp only at q4 q5;omega
 rw[if_neg e8]at q1;by_cases e9:x.op=12
 ·rw[if_pos e9]at q1;obtain rfl:=Option.some.inj q1;dsimp only at q4 q5;omega
 rw[if_neg e9]at q1;by_cases VX:x.op=13
 ·rw[if_pos VX]at q1;obtain rfl:=Option.some.inj q1;dsimp only at q4 q5;omega
 rw[if_neg VX]at q1;by_cases e11:x.op=14
 ·rw[if_pos e11]at q1;obtain rfl:=Option.some.inj q1;dsimp only at q4 q5;omega
 rw[if_neg e11]at q1;by_cases e12:x.op=15
 ·rw[if_pos e12]at q1;obtain rfl:=Option.some.inj q1;dsimp only at q4 q5;omega
 rw[if_neg e12]at q1;cases q1
theorem pT{p:Prog}(hp:formed p):∀(d:Nat) (h:d<p.aj.length),kP p p.aj[d].exp:=λd h x hx=>(jf hp h x hx).node
theorem nO{p:Prog}(hp:formed p):∀s∈p.az++an p,cN s:=λs hs=>by
 obtain⟨i,hi,rfl⟩:=List.mem_iff_getElem.1 hs;have:=((rD hp).dif i hi).1;unfold gE at this;simp only[Bool.and_eq_true,decide_eq_true_eq]at this;unfold cN;omega
theorem kD{p:Prog}(hp:formed p):Good p:=by
 obtain⟨⟨l,hl⟩,_⟩:=hp;exact Good.of hl
def Bb(p:Prog)(az:List cr)(g:List Nat)(ring:Bool)(aj:List cr):Option (List cr):=if ring=true then ir p az 1 g 202 0 aj else gb p az 200 g aj
def pQ(p:Prog)(az:List cr)(R:Nat->Nat->Bool):List (List Nat)->List cr->Option (List cr)
 |[],aj=>some aj
 |g::gs,aj=>match Bb p az g (R (g.headD 0) (g.headD 0)) aj with
  |none=>none
  |some defs'=>pQ p az R gs defs'
theorem oG{p:Prog}{d:Nat}(h:d<p.aj.length):fC p d=p.aj[d].exp:=by
 unfold fC;rw[List.getD_eq_getElem?_getD,List.getElem?_eq_getElem h];rfl
theorem iJ{p:Prog}{i k:Nat}:bh p i k=true↔Path (fJ p) i k:=by simp[bh]
theorem gB{p:Prog}{i j k:Nat}(h1:bh p i j=true)(h2:bh p j k=true):bh p i k=true:=iJ.2 ((iJ.1 h1).trans (iJ.1 h2))
theorem stepB{p:Prog}{d:Nat}(hd:d<p.aj.length){x:bw}(hx:x∈bn p.aj[d].exp)(ho:x.op=2\/ x.op=3)(hi:0<=idx (an p) x.name):bh p d (idx (an p) x.name).toNat=true:=
 iJ.2 (.one ⟨hd,x,hx,ho,by omega⟩)
theorem Fu{p:Prog}{g:List Nat}:∀(l:List bw) (v:Int),jT p g l v<=v
 |[],v=>Int.le_refl _
 |e::l,v=>by
  have h1:=Fu (p:=p) (g:=g) l (rH p g v e);have h2:rH p g v e<=v:=by
   unfold rH
   split
   ·unfold ic;split<;>omega
   ·exact Int.le_refl _
  exact Int.le_trans h1 h2
theorem I8{p:Prog}{g:List Nat}{x:bw}(h3:x.op=3)(hi:idx (an p) x.name∈bU g):∀(l:List bw) (v:Int),x∈l->jT p g l v<=x.n
 |e::l,v,h=>by
  have e1:jT p g (e::l) v=jT p g l (rH p g v e):=rfl;rw[e1];rcases List.mem_cons.1 h with q|q
  ·subst q;have h2:rH p g v x<=x.n:=by unfold rH;rw[if_pos ⟨h3,hi⟩];unfold ic;split<;>omega
   exact Int.le_trans (Fu l _) h2
  ·exact I8 h3 hi l _ q
theorem Nf{p:Prog}{g:List Nat}{m:Int}:∀(l:List bw) (v:Int),m<=v->(∀x∈l,x.op=3->idx (an p) x.name∈bU g->m<=x.n)->m<=jT p g l v
 |[],v,h,_=>h
 |e::l,v,h,hx=>by
  have e1:jT p g (e::l) v=jT p g l (rH p g v e):=rfl;rw[e1];refine Nf l _ ?_ λx hx'=>hx x (List.mem_cons_of_mem _ hx')
  unfold rH
  split
  ·rename_i q;have:=hx e (List.mem_cons_self ..) q.1 q.2;unfold ic;split<;>omega
  ·exact h
theorem yX{p:Prog}{g:List Nat}(ex:Nat->List bw):∀(l:List Nat) (v:Int),l.foldl (λv d=>jT p g (ex d) v) v<=v
 |[],v=>Int.le_refl _
 |d::l,v=>by rw[List.foldl_cons];exact Int.le_trans (yX ex l _) (Fu _ _)
theorem I9{p:Prog}{g:List Nat}(ex:Nat->List bw){x:bw}{d:Nat}(hx:x∈ex d)(h3:x.op=3)(hi:idx (an p) x.name∈bU g):∀(l:List Nat) (v:Int),d∈l->l.foldl (λv d=>jT p g (ex d) v) v<=x.n
 |e::l,v,h=>by
  rw[List.foldl_cons];rcases List.mem_cons.1 h with q|q
  ·subst q;exact Int.le_trans (yX ex l _) (I8 h3 hi _ _ hx)
  ·exact I9 ex hx h3 hi l _ q
theorem yY{p:Prog}{g:List Nat}(ex:Nat->List bw){m:Int}:∀(l:List Nat) (v:Int),m<=v->(∀d∈l,∀x∈ex d,x.op=3->idx (an p) x.name∈bU g->m<=x.n)->m<=l.foldl (λv d=>jT p g (ex d) v) v
 |[],v,h,_=>h
 |d::l,v,h,hx=>by
  rw[List.foldl_cons];exact yY ex l _ (Nf _ _ h (hx d (List.mem_cons_self ..))) λe he=>hx e (List.mem_cons_of_mem _ he)
theorem HO{g:List Nat}{z:Int}(h:0<=z):z∈bU g↔z.toNat∈g:=by
 unfold bU;rw[List.mem_map];constructor
 ·rintro⟨k,hk,rfl⟩;simpa using hk
 ·intro q;exact⟨z.toNat,q,by simp;omega⟩
theorem Qq{p:Prog}(hp:formed p){d:Nat}(hd:d<p.aj.length)(hr:bh p d d=true):BW p (bO p.aj.length (bh p) d) (wN p (bO p.aj.length (bh p) d)):=by
 obtain⟨g,hg⟩:∃g,bO p.aj.length (bh p) d=g:=⟨_,rfl⟩;rw[hg];have hlt:∀k∈g,k<p.aj.length:=λk hk=>by rw[<-hg]at hk;exact(bK.1 hk).1
 have hself:∀k∈g,bh p k k=true:=λk hk=>by
  rw[<-hg]at hk;rcases(bK.1 hk).2 with q|⟨q1,q2⟩
  ·rw[q];exact hr
  ·exact gB q2 q1
 have IF:∀k∈g,∀x∈bn (fC p k),tI p k x/\cD x=false:=λk hk x hx=>by
  rw[oG (hlt k hk)]at hx;exact⟨jf hp (hlt k hk) x hx,hp.2 k (hlt k hk) (iJ.1 (hself k hk)) x hx⟩
 have DB:∀k∈g,∀x∈bn (fC p k),1<=x.op/\uE x.op x.n:=λk hk x hx=>by
  obtain⟨q1,q2⟩:=IF k hk x hx;have q3:=q1.bnd;unfold cD at q2;have q4:=of_decide_eq_false q2;exact⟨q3.1,λh=>q4 (.inl h),λh=>by omega,q3.2.2.2.1,λh=>by have:=q3.2.2.2.2.1 h;omega⟩
 have hfar:∀k∈g,∀x∈bn (fC p k),x.op=3->(idx (an p) x.name).toNat∈g->wN p g<=x.n:=λk hk x hx h3 hi=>by
  have:=((IF k hk x hx).1.node.df (.inr h3));exact I9 (λd=>bn (fC p d)) hx h3 ((HO this).2 hi) g 201 hk
 refine⟨?_,DB,λk hk x hx h2 _=>?_,hfar,?_⟩
 ·rw[<-hg];exact List.Pairwise.filter _ List.pairwise_lt_range
 ·have h1:=(IF k hk x hx).1.lt h2;have h3:=(IF k hk x hx).1.node.df (.inl h2);omega
 ·exact yY (λd=>bn (fC p d)) g 201 (by omega) λk hk x hx h3 _=>((IF k hk x hx).1.bnd.2.2.1 h3).1
theorem Q3{p:Prog}(hp:formed p){d:Nat}(hd:d<p.aj.length)(hr:bh p d d=false):wN p [d]=201:=by
 have h1:wN p [d]<=201:=yX (g:=[d]) (λd=>bn (fC p d)) [d] 201
 have h2:201<=wN p [d]:=yY (g:=[d]) (λd=>bn (fC p d)) [d] 201 (Int.le_refl _) λk hk x hx h3 hi=>by
  have:=List.mem_singleton.1 hk;subst this;rw[oG hd]at hx;have h0:=(jf hp hd x hx).node.df (.inr h3);have h4:=stepB hd hx (.inr h3) h0;rw[HO h0,List.mem_singleton]at hi;rw[hi,hr]at h4;cases h4
 omega
def tJ(p:Prog)(g:List Nat):Prop:=∃d,d<p.aj.length/\g=fL p.aj.length (bh p) d
theorem tJ.lt{p:Prog}{g:List Nat}(h:tJ p g){k:Nat}(hk:k∈g):k<p.aj.length:=by
 obtain⟨d,hd,rfl⟩:=h;exact wB hd hk
theorem OL{g:List Nat}{k:Nat}(h:k∈g):g.headD 0∈g:=by
 cases g with
 |nil=>cases h
 |cons a g=>exact List.mem_cons_self ..
theorem LZ{p:Prog}(hp:formed p){az:List cr}{g:List Nat}(hg:tJ p g){aj:List cr}(hl:aj.length=p.aj.length)(h0:∀d∈g,cH aj d=[]):
  wK p az g aj=Bb p az g (bh p (g.headD 0) (g.headD 0)) aj:=by
 have hlt:=λk=>hg.lt (k:=k)
 obtain⟨d,hd,e⟩:=hg;unfold wK Bb;cases hr:bh p d d with
 |true=>
  have e2:g=bO p.aj.length (bh p) d:=by rw[e,fL,if_pos hr]
  have IT:=Qq hp hd hr;rw[<-e2]at IT;have Du:bh p (g.headD 0) (g.headD 0)=true:=by
   have hm:g.headD 0∈g:=OL (k:=d) (by rw[e];exact fP hd)
   rw[e2]at hm;rcases(bK.1 hm).2 with q|⟨q1,q2⟩
   ·rw[e2,q];exact hr
   ·rw[e2];exact gB q2 q1
  rw[if_pos Du];exact NS IT (λk hk=>by rw[hl];exact hlt k hk) h0
 |false=>
  have e2:g=[d]:=by rw[e,fL,if_neg (by rw[hr];simp)]
  subst e2;rw[show([d]:List Nat).headD 0=d from rfl,hr,if_neg (by simp),Q3 hp hd hr]
  have hm:ic ((201:Int)-1) 200=200:=rfl;rw[hm,ir];cases gb p az 200 [d] aj<;>rfl
theorem Ba{p:Prog}{az:List cr}{g:List Nat}(hn:g.Nodup):∀(f:Nat) (far top:Int) (aj D:List cr),(∀d∈g,d<aj.length)->ir p az far g f top aj=some D->Out g D aj
 |0,_,_,aj,D,_,h=>by rw[ir]at h;cases h;exact⟨rfl,λ_ _=>rfl⟩
 |f+1,far,top,aj,D,hl,h=>by
  rw[ir]at h
  split at h
  ·cases h
  ·rename_i d1 h1;have ho:=(vY g aj d1 h1 hn hl).1
   split at h
   ·cases h;exact ho
   ·exact(Ba hn f far _ d1 D (λd hd=>by rw[ho.1];exact hl d hd) h).trans ho
theorem tJ.nodup{p:Prog}{g:List Nat}(h:tJ p g):g.Nodup:=by
 obtain⟨d,hd,rfl⟩:=h;unfold fL
 split
 ·exact List.Pairwise.filter _ List.nodup_range
 ·simp
theorem OV{p:Prog}{az:List cr}{g:List Nat}(hg:tJ p g){aj D:List cr}(hl:aj.length=p.aj.length)(h:wK p az g aj=some D):Out g D aj:=
 Ba hg.nodup _ _ _ _ _ (λd hd=>by rw[hl];exact hg.lt hd) h
theorem xU{p:Prog}(hp:formed p){az:List cr}:∀(gs:List (List Nat)) (aj:List cr),(∀g∈gs,tJ p g)->gs.Pairwise (λg h=>∀d∈h,d∉g)->aj.length=p.aj.length->(∀g∈gs,∀d∈g,cH aj d=[])->
  iC p az gs aj=pQ p az (bh p) gs aj
 |[],aj,_,_,_,_=>rfl
 |g::gs,aj,hg,hpw,hl,h0=>by
  have hp':=List.pairwise_cons.1 hpw;have hgg:=hg g (List.mem_cons_self ..);have hs:=LZ hp (az:=az) hgg hl (h0 g (List.mem_cons_self ..));rw[iC,pQ,<-hs];cases hk:wK p az g aj with
  |none=>rfl
  |some D=>
   have ho:=OV hgg hl hk;simp only;refine xU hp gs D (λg' hg'=>hg g' (List.mem_cons_of_mem _ hg')) hp'.2 (ho.1.trans hl) λg' hg' d hd=>?_
   rw[ho.2 d (hp'.1 g' hg' d hd)];exact h0 g' (List.mem_cons_of_mem _ hg') d hd
theorem Vf{p:Prog}{d k:Nat}(hd:d<p.aj.length)(h:k∈fL p.aj.length (bh p) d):d∈fL p.aj.length (bh p) k:=by
 unfold fL at h
 split at h
 ·rename_i hr;obtain⟨hk,q⟩:=bK.1 h;rcases q with q|⟨q1,q2⟩
  ·subst q;exact fP hd
  ·unfold fL;rw[if_pos (gB q2 q1)];exact bK.2 ⟨hd,.inr ⟨q2,q1⟩⟩
 ·rw[List.mem_singleton.1 h];exact fP hd
theorem kC{p:Prog}:∀(f:Nat) (D:List Nat),(∀x∈D,x<p.aj.length/\∀k∈fL p.aj.length (bh p) x,k∈D)->
  (∀g∈eZ p.aj.length (bh p) f D,tJ p g/\∀d∈g,d∉D)/\(eZ p.aj.length (bh p) f D).Pairwise λg h=>∀d∈h,d∉g
 |0,D,_=>⟨λg hg=>absurd hg List.not_mem_nil,.nil⟩
 |f+1,D,hD=>by
  rw[eZ]
  split
  ·split
   ·exact⟨λg hg=>absurd hg List.not_mem_nil,.nil⟩
   ·rename_i d hf;have hd:d<p.aj.length:=List.mem_range.1 (List.mem_of_find?_eq_some hf);have hrd:=List.find?_some hf;have IV:d∉D:=by
     unfold fw at hrd;rw[Bool.and_eq_true]at hrd;simpa using hrd.1
    have hdis:∀k∈fL p.aj.length (bh p) d,k∉D:=λk hk Ry=>IV ((hD k Ry).2 d (Vf hd hk))
    have hD':∀x∈cR D (fL p.aj.length (bh p) d),x<p.aj.length/\∀k∈fL p.aj.length (bh p) x,k∈cR D (fL p.aj.length (bh p) d):=λx hx=>by
     rcases eo.1 hx with q|q
     ·exact⟨(hD x q).1,λk hk=>eo.2 (.inl ((hD x q).2 k hk))⟩
     ·refine⟨wB hd q,λk hk=>eo.2 (.inr ?_)⟩
      unfold fL at q
      split at q
      ·rename_i hr;rcases(bK.1 q).2 with e|⟨q1,q2⟩
       ·rw[e]at hk;exact hk
       ·have hxx:=gB q2 q1;unfold fL at hk|-;rw[if_pos hxx]at hk;rw[if_pos hr];refine bK.2 ⟨(bK.1 hk).1,?_⟩;rcases(bK.1 hk).2 with e|⟨r1,r2⟩
        ·rw[e];exact .inr ⟨q1,q2⟩
        ·exact .inr ⟨gB q1 r1,gB r2 q2⟩
      ·rw[List.mem_singleton.1 q]at hk;exact hk
    obtain⟨i1,i2⟩:=kC f _ hD';refine⟨λg hg=>?_,List.pairwise_cons.2 ⟨λg hg k hk OG=>?_,i2⟩⟩
    ·rcases List.mem_cons.1 hg with q|q
     ·rw[q];exact⟨⟨d,hd,rfl⟩,hdis⟩
     ·exact⟨(i1 g q).1,λk hk Ry=>(i1 g q).2 k hk (eo.2 (.inl Ry))⟩
    ·exact(i1 g hg).2 k hk (eo.2 (.inr OG))
  ·exact⟨λg hg=>absurd hg List.not_mem_nil,.nil⟩
theorem Lr{p:Prog}(hp:formed p)(l:List Event):fA p l=pQ p (mg p l) (bh p) (gR p.aj.length (bh p)) (List.replicate p.aj.length []):=by
 obtain⟨h1,h2⟩:=kC (p:=p) p.aj.length [] (λx hx=>absurd hx List.not_mem_nil)
 refine xU hp _ _ (λg hg=>(h1 g hg).1) h2 (by simp) λg hg d hd=>?_
 unfold cH;rw[List.getD_eq_getElem?_getD,List.getElem?_replicate]
 split<;>rfl
def ej(gen:Item->Option Rec)(b:List Item):List Item:=b.foldl (λout x=>match gen x with
 |none=>out
 |some r=>if(⟨r,1⟩:Item)∈out then out else out++[⟨r,1⟩]) []
theorem kE(gen:Item->Option Rec)(b:List Item)(x:Item):ej gen (b++[x])=match gen x with
 |none=>ej gen b
 |some r=>if(⟨r,1⟩:Item)∈ej gen b then ej gen b else ej gen b++[⟨r,1⟩]:=by
 rw[ej,List.foldl_append];rfl
theorem sI(gen:Item->Option Rec)(r:Rec):∀b:List Item,Wm (bQ (ej gen b) r) (∃x∈b,gen x=some r)/\((⟨r,1⟩:Item)∈ej gen b↔∃x∈b,gen x=some r):=by
 refine iv ⟨⟨λ⟨x,h,_⟩=>absurd h List.not_mem_nil,λ_=>rfl⟩,⟨λh=>absurd h List.not_mem_nil,λ⟨x,h,_⟩=>absurd h List.not_mem_nil⟩⟩ λb x ih=>?_
 rw[kE];have hiff:(∃y∈b++[x],gen y=some r)↔(∃y∈b,gen y=some r)\/ gen x=some r:=by
  constructor
  ·rintro⟨y,hy,q⟩;rcases List.mem_append.1 hy with h|h
   ·exact .inl ⟨y,h,q⟩
   ·rw[List.mem_singleton.1 h]at q;exact .inr q
  ·rintro(⟨y,hy,q⟩|q)
   ·exact⟨y,List.mem_append_left _ hy,q⟩
   ·exact⟨x,List.mem_append_right _ (List.mem_singleton.2 rfl),q⟩
 cases hg:gen x with
 |none=>
  simp only;have h2:(∃y∈b,gen y=some r)↔(∃y∈b++[x],gen y=some r):=by rw[hiff,hg];simp
  exact⟨ih.1.congr h2,ih.2.trans h2⟩
 |some s=>
  simp only;by_cases e:s=r
  ·subst e;have h2:(∃y∈b++[x],gen y=some s):=hiff.2 (.inr hg)
   split
   ·rename_i hm;have h3:=ih.2.1 hm;exact⟨ih.1.congr ⟨λ_=>h2,λ_=>h3⟩,⟨λ_=>h2,λ_=>hm⟩⟩
   ·rename_i hm;have h3:¬∃y∈b,gen y=some s:=λq=>hm (ih.2.2 q)
    refine⟨⟨λ_=>?_,λq=>absurd h2 q⟩,⟨λ_=>h2,λ_=>by simp⟩⟩
    rw[kI,ih.1.2 h3];simp[bQ]
  ·have h2:(∃y∈b,gen y=some r)↔(∃y∈b++[x],gen y=some r):=by rw[hiff,hg];simp[e]
   split
   ·exact⟨ih.1.congr h2,ih.2.trans h2⟩
   ·refine⟨?_,?_⟩
    ·rw[kI];have:bQ [(⟨s,1⟩:Item)] r=0:=by simp[bQ,e]
     rw[this,Int.add_zero];exact ih.1.congr h2
    ·rw[<-h2,<-ih.2,List.mem_append];have:¬(⟨r,1⟩:Item)∈[(⟨s,1⟩:Item)]:=λq=>e (by have:=List.mem_singleton.1 q;injection this with h1 _;exact h1.symm)
     exact⟨λq=>q.resolve_right this,.inl⟩
def Am(o:Option Item)(y:Item):Bool:=match o with
 |none=>true
 |some z=>decide (z.aa.at_<y.aa.at_\/ y.aa.at_=z.aa.at_/\z.aa.val<y.aa.val)
def AJ(b:List Item)(r:Rec):Option Item:=b.foldl (λo y=>if y.aa.key=r.key/\y.aa.at_<=r.at_/\Am o y=true then some y else o) none
theorem AI(b:List Item)(r:Rec)(y:Item):AJ (b++[y]) r=if y.aa.key=r.key/\y.aa.at_<=r.at_/\Am (AJ b r) y=true then some y else AJ b r:=by
 unfold AJ;rw[List.foldl_append];rfl
theorem Ik(r:Rec):∀b:List Item,oZ b->(∀x∈b,0<=x.aa.at_)->AJ b r=(dF b r.key 0 r.at_).getLast?:=by
 refine iv (λ_ _=>rfl) λb y ih hb h0=>?_
 have hb':=List.pairwise_append.1 hb;have ih:=ih hb'.1 λx hx=>h0 x (List.mem_append_left _ hx)
 have hy0:=h0 y (by simp)
 have hw:dF (b++[y]) r.key 0 r.at_=dF b r.key 0 r.at_++(if y.aa.key=r.key/\y.aa.at_<=r.at_ then[y]else[]):=by
  rw[dF,List.filter_append,dF]
  congr 1
  by_cases q:y.aa.key=r.key/\y.aa.at_<=r.at_
  ·rw[if_pos q,List.filter_cons_of_pos (by simp[q.1,q.2,hy0]),List.filter_nil]
  ·rw[if_neg q,List.filter_cons_of_neg (by simp;intro h1 h2;exact Int.not_le.1 λh3=>q ⟨h1,h3⟩),List.filter_nil]
 rw[AI,hw,ih];by_cases q:y.aa.key=r.key/\y.aa.at_<=r.at_
 ·rw[if_pos q,List.getLast?_concat];rw[if_pos];refine⟨q.1,q.2,?_⟩;cases hl:(dF b r.key 0 r.at_).getLast? with
  |none=>rfl
  |some z=>
   have hz:=lX.1 (List.mem_of_getLast? hl);have:=hb'.2.2 z hz.1 y (by simp)
   simp only[cM,decide_eq_true_eq]at this;have hk:z.aa.key=y.aa.key:=by rw[hz.2.1,q.1]
   exact decide_eq_true (by omega)
 ·rw[if_neg q,List.append_nil,if_neg λw=>q ⟨w.1,w.2.1⟩]
def tG(c:bc)(b:List Item)(x:Item):List Item:=match AJ b x.aa with
 |none=>[]
 |some y=>[⟨⟨x.aa.at_,x.aa.key,ek x.aa y.aa.val c⟩,x.n⟩]
def mw(p:Prog)(W:b9)(op:Int)(name:ca)(n f:Int)(cs:List bc)(ks:List cr):List Item:=
 let a:=ks.getD 0 []
 let b:=ks.getD 1 []
 let c:=cs.getD 0 default
 if op=1 then W.az.getD (idx p.az name).toNat []
 else if op=2 then W.aj.getD (idx (an p) name).toNat []
 else if op=3 then dU n (W.aj.getD (idx (an p) name).toNat [])
 else if op=4 then a++b
 else if op=5 then jJ c a
 else if op=6 then Bo c (cs.getD 1 default) a
 else if op=7 then dU n a
 else if op=8 then ej (iK f 0 (wL n) a) a
 else if op=9 then ej (iK f 0 (vN n) a) a
 else if op=10 then ej (iK f 0 vL a) a
 else if op=11 then ej (iK f n (ix n) a) a
 else if op=12 then a.flatMap (iZ n c b)
 else if op=13 then a.flatMap (tG c b)
 else if op=14 then a.filter λx=>(dF b x.aa.key (x.aa.at_-n) (x.aa.at_+n)).isEmpty
 else xw a
theorem MQ{b:List Item}(hb:nS b)(n:Int)(a:List Item):tw n a b=a.filter λx=>(dF b x.aa.key (x.aa.at_-n) (x.aa.at_+n)).isEmpty:=by
 unfold tw;refine List.filter_congr λx _=>?_
 rw[iG hb]
theorem Ol(p:Prog)(W:b9){op:Int}{name:ca}{n f:Int}{cs:List bc}{ks:List cr}(hk:∀b∈ks,jr b)(h8:op=8->1<=n)(h11:op=11->0<=n)(r:Rec):bQ (mw p W op name n f cs ks) r=bQ (gV p W op name n f cs ks) r:=by
 have k0:=yS hk 0;have k1:=yS hk 1;have t0:=sE k0.1;have t1:=sE k1.1;unfold mw gV;simp only;by_cases q1:op=1
 ·rw[if_pos q1,if_pos q1]
 rw[if_neg q1,if_neg q1];by_cases q2:op=2
 ·rw[if_pos q2,if_pos q2]
 rw[if_neg q2,if_neg q2];by_cases q3:op=3
 ·rw[if_pos q3,if_pos q3]
 rw[if_neg q3,if_neg q3];by_cases q4:op=4
 ·rw[if_pos q4,if_pos q4]
 rw[if_neg q4,if_neg q4];by_cases q5:op=5
 ·rw[if_pos q5,if_pos q5]
 rw[if_neg q5,if_neg q5];by_cases q6:op=6
 ·rw[if_pos q6,if_pos q6]
 rw[if_neg q6,if_neg q6];by_cases q7:op=7
 ·rw[if_pos q7,if_pos q7]
 rw[if_neg q7,if_neg q7];by_cases q8:op=8
 ·rw[if_pos q8,if_pos q8];exact(sI _ r _).1.eq (lN (I1 (h8 q8)) t0 k0.2 r) Iff.rfl
 rw[if_neg q8,if_neg q8];by_cases q9:op=9
 ·rw[if_pos q9,if_pos q9];exact(sI _ r _).1.eq (lN Gw t0 k0.2 r) Iff.rfl
 rw[if_neg q9,if_neg q9];by_cases q10:op=10
 ·rw[if_pos q10,if_pos q10];exact(sI _ r _).1.eq (lN Gd t0 k0.2 r) Iff.rfl
 rw[if_neg q10,if_neg q10];by_cases q11:op=11
 ·rw[if_pos q11,if_pos q11];exact(sI _ r _).1.eq (lN (My (h11 q11)) t0 k0.2 r) Iff.rfl
 rw[if_neg q11,if_neg q11];by_cases q12:op=12
 ·rw[if_pos q12,if_pos q12,yJ t1]
 rw[if_neg q12,if_neg q12];by_cases q13:op=13
 ·rw[if_pos q13,if_pos q13,y9 t1];have e:tG (cs.getD 0 default) (ks.getD 1 [])=vC (cs.getD 0 default) (ks.getD 1 []):=by
   funext x
   rw[tG,vC,Ik x.aa _ k1.1 k1.2];cases(dF (ks.getD 1 []) x.aa.key 0 x.aa.at_).getLast? <;>rfl
  rw[e]
 rw[if_neg q13,if_neg q13];by_cases q14:op=14
 ·rw[if_pos q14,if_pos q14,MQ t1]
 rw[if_neg q14,if_neg q14]
mutual
def ql(p:Prog)(W:b9)(top:Int):bw->Option cr
 |.mk op name n f cs kids=>match rK p W top kids with
  |none=>none
  |some ks=>if gH (bV (mw p W op name n f cs ks) top)then some (bV (mw p W op name n f cs ks) top)else none
def rK(p:Prog)(W:b9)(top:Int):List bw->Option (List cr)
 |[]=>some []
 |e::es=>match ql p W top e with
  |none=>none
  |some b=>match rK p W top es with
   |none=>none
   |some bs=>some (b::bs)
end
theorem Ca{a b:List Item}(h:∀r,bQ a r=bQ b r)(t:Int):bV a t=bV b t:=BZ.summed λr _=>h r
mutual
theorem DO{p:Prog}{W:b9}{top:Int}:∀e:bw,(∀x∈bn e,(x.op=8->1<=x.n)/\(x.op=11->0<=x.n))->ql p W top e=fW p W top e/\∀b,fW p W top e=some b->jr b
 |.mk op name n f cs kids,hx=>by
  obtain⟨q1,q2⟩:=Bm kids λx hx'=>hx x (by rw[bn];exact List.mem_cons_of_mem _ hx')
  have hx0:=hx (.mk op name n f cs kids) (by rw[bn];exact List.mem_cons_self ..)
  rw[ql,fW,q1];cases hk:gZ p W top kids with
  |none=>exact⟨rfl,λb h=>by cases h⟩
  |some ks=>
   simp only;rw[Ca (Ol p W (op:=op) (name:=name) (n:=n) (f:=f) (cs:=cs) (q2 ks hk) hx0.1 hx0.2) top];refine⟨rfl,λb h=>?_⟩
   split at h
   ·cases h;exact jr.summed _ _
   ·cases h
theorem Bm{p:Prog}{W:b9}{top:Int}:∀es:List bw,(∀x∈bu es,(x.op=8->1<=x.n)/\(x.op=11->0<=x.n))->rK p W top es=gZ p W top es/\∀ks,gZ p W top es=some ks->∀b∈ks,jr b
 |[],_=>⟨by rw[rK,gZ],λks h b hb=>by rw[gZ]at h;cases h;exact absurd hb List.not_mem_nil⟩
 |e::es,hx=>by
  obtain⟨q1,q2⟩:=DO (p:=p) (W:=W) (top:=top) e λx hx'=>hx x (by rw[bu];exact List.mem_append_left _ hx')
  obtain⟨q3,q4⟩:=Bm (p:=p) (W:=W) (top:=top) es λx hx'=>hx x (by rw[bu];exact List.mem_append_right _ hx')
  rw[rK,gZ,q1,q3];refine⟨rfl,λks h b hb=>?_⟩
  cases h1:fW p W top e with
  |none=>rw[h1]at h;cases h
  |some b1=>
   rw[h1]at h;cases h2:gZ p W top es with
   |none=>rw[h2]at h;cases h
   |some bs=>
    rw[h2]at h;cases h;rcases List.mem_cons.1 hb with q|q
    ·rw[q];exact q2 _ h1
    ·exact q4 _ h2 b q
end
end Go.Aft
end
section
set_option maxRecDepth 20000
namespace Go.Aft
open Go.Proofs.Tryz
def Qe(op n:Int):List Item->Int->Int->Option (Int×Int):=if op=8 then wL n else if op=9 then vN n else vL
theorem um(gen:Item->Option Rec):∀b:List Item,(ej gen b).length<=b.length:=by
 refine iv (Nat.le_refl _) λb x ih=>?_
 rw[kE];cases gen x with
 |none=>simp;omega
 |some r=>simp only;split<;>simp<;>omega
theorem qx(b:List Item)(k lo hi:Int):(dF b k lo hi).length<=b.length:=List.length_filter_le _ _
theorem GU(e:bw)(l:List Item)(hop:e.op=8\/ e.op=9\/ e.op=10)(hn:0<=e.n/\e.n<=1000)(h8:e.op=8->1<=e.n)(hf4:1<=e.fold/\e.fold<=4)(hl:l.length<=1000)(hb:∀x∈l,0<=x.aa.at_/\x.aa.at_<=200/\Co x):
  aC prog 202 [lv (aQ e),sl (l.map ak)] (sl ((ej (iK e.fold 0 (Qe e.op e.n) l) l).map ak)):=by
 intro H;have cc:=ar (p:=aY [2] [] []);refine aF.bD (ar (p:=aY [2] [] [])) func202 rfl call202 (by rw[ntmps202];simp) rfl λhf hw=>?_
 simp[ntmps202,results202,ai]at hf|-;refine AW.aU cc (λs:Nat×LV×GH=>⟨[(1,sl (l.map ak)),(2,.ip ((aQ e).map .d) 0),(5,s.2.1),(6,aH s.1)],[],s.2.2⟩) (λs=>l.length-s.1)
  (λs=>s.1<=l.length/\cm 86 4 H s.2.1 ((ej (iK e.fold 0 (Qe e.op e.n) l) (l.take s.1)).map ak) s.2.2) (0,.d (.k (.slice none 0 0)),H) ⟨⟨Nat.zero_le _,cm.nil⟩,by simp[ai]⟩ ?_
 rintro⟨i,y,H2⟩ ⟨hi',aA⟩;simp only at hi' aA;simp;refine⟨λh=>?_,λh=>?_⟩
 ·obtain⟨x,dc⟩:∃x,l[i]=x:=⟨_,rfl⟩;obtain⟨hx1,hx2,hxo⟩:=hb x (dc▸List.getElem_mem h);have fU:l.take (i+1)=l.take i++[x]:=by rw[<-aR h,dc]
  have eU:=aB (n:=9223372036854775807) (show i<9223372036854775807 by omega)
  have dz:=kE (iK e.fold 0 (Qe e.op e.n) l) (l.take i) x;rw[<-fU]at dz;have FY:=um (iK e.fold 0 (Qe e.op e.n) l) (l.take i);have hlt:(l.take i).length<=i:=by simp;omega
  obtain⟨lo,hi,hsp,hcs⟩:∃lo hi,Qe e.op e.n l x.aa.key x.aa.at_=some (lo,hi)/\(e.op=8/\(IntKind.i64.wrap (x.aa.at_-x.aa.at_.tmod e.n)=lo/\IntKind.i64.wrap (lo+e.n)=hi+1/\IntKind.i64.wrap hi=hi)\/
    e.op=9/\(IntKind.i64.wrap (x.aa.at_-e.n)=lo/\hi=x.aa.at_)\/ e.op=10/\(lo=0/\hi=x.aa.at_)):=by
   rcases hop with q|q|q
   ·have h1:=h8 q;have h2:=Int.tmod_add_mul_tdiv x.aa.at_ e.n;have h3:0<=x.aa.at_.tmod e.n:=Int.tmod_nonneg _ hx1;have h6:=Int.mul_nonneg (show 0<=e.n by omega) (Int.tdiv_nonneg hx1 (show 0<=e.n by omega))
    have h5:x.aa.at_-x.aa.at_.tmod e.n=x.aa.at_.tdiv e.n*e.n:=by rw[Int.mul_comm];omega
    refine⟨_,_,by rw[Qe,if_pos q];rfl,.inl ⟨q,?_,?_,?_⟩⟩
    ·rw[h5,wrap64]<;>omega
    ·rw[wrap64]<;>omega
    ·rw[wrap64]<;>omega
   ·exact⟨_,_,by rw[Qe,if_neg (by omega),if_pos q];rfl,.inr (.inl ⟨q,by rw[wrap64]<;>omega,rfl⟩)⟩
   ·exact⟨_,_,by rw[Qe,if_neg (by omega),if_neg (by omega)];rfl,.inr (.inr ⟨q,rfl,rfl⟩)⟩
  have Fg:iK e.fold 0 (Qe e.op e.n) l x=some ⟨hi,x.aa.key,foldI e.fold (dF l x.aa.key lo hi)⟩:=by
   unfold iK;rw[hsp];simp
  have hky:=ng l x.aa.key lo hi hl;have hfo:=uX e.fold hf4 (dF l x.aa.key lo hi) (Nat.le_trans (qx _ _ _ _) hl) λz hz=>(hb z (lX.1 hz).1).2.2
  simp at hky hfo;obtain⟨fo,hfoe⟩:∃fo,foldI e.fold (dF l x.aa.key lo hi)=fo:=⟨_,rfl⟩;rw[hfoe]at hfo Fg;rw[Fg]at dz;simp only at dz;obtain⟨out,hout⟩:∃out,ej (iK e.fold 0 (Qe e.op e.n) l) (l.take i)=out:=⟨_,rfl⟩;rw[hout]at dz aA FY;have yC:=CS out ⟨⟨hi,x.aa.key,fo⟩,1⟩ (by omega)
  simp[ak]at yC;rcases hcs with⟨q,c1,c2,c3⟩|⟨q,c1,rfl⟩|⟨q,rfl,rfl⟩
  ·have hn0:¬e.n=0:=by have:=h8 q;omega
   simp[h,List.getElem?_eq_getElem h,dc,ak,aA.plain.all,ai,q,hn0];refine AW.draw cc [(18,.n),(19,.n)] (.q 0<|.q 1<|.q 2<|.q 3<|.q 4<|.q 5<|.q 7<|.q 9<|.q 10<|.q 11<|.q 12<|.q 13<|.q 14<|.q 16<|.q 17<|.q 6<|.q 8<|.q 15<|.q 18<|.q 19<|.q 20<|.q 21<|.f<|.one 22<|.f<|.one 23<|.done) (by kernel_rfl) ?_
   simp[h,List.getElem?_eq_getElem h,dc,ak,ai,c1,c2,c3];refine FC.aJ hky ?_;simp[h,List.getElem?_eq_getElem h,dc,ak,ai];refine FC.aJ hfo ?_;simp[h,List.getElem?_eq_getElem h,dc,ak,ai,aA.plain.all];refine⟨aA.nb,EC.aJ (aC.OW (v:=.d (.k (.bool (decide ((⟨⟨hi,x.aa.key,fo⟩,1⟩:Item)∈out))))) (by simp only[xV,fz,aA.fz];exact yC)) ?_⟩
   by_cases hm:(⟨⟨hi,x.aa.key,fo⟩,1⟩:Item)∈out
   ·rw[if_pos hm]at dz;simp[hm];exact NX.go (i+1,y,H2) (by simp only;omega) ⟨h,by rw[dz];exact aA⟩ (by simp[aA.only,eU,ai,q])
   ·rw[if_neg hm]at dz;simp[hm,aA.plain.all];refine eE.dJ (ys:=[ak ⟨⟨hi,x.aa.key,fo⟩,1⟩]) eW rfl dO (by simp) (x:=y) (by simp) aA (by simp[ak,rowsOf]) (by simp) (bl _) (ef _) (by simp only[List.length_map,List.length_singleton];omega) (by simp) λx' H3 aG _ _=>?_
    simp[aG.plain.all,aG.only,eU];rw[cS,<-dz]at aG;exact NX.go (i+1,x',H3) (by simp only;omega) ⟨h,aG⟩ (by simp[aG.only,ai,q])
  ·simp[h,List.getElem?_eq_getElem h,dc,ak,aA.plain.all,ai,q];refine AW.draw cc [(18,.n),(19,.n)] (.q 0<|.q 1<|.q 2<|.q 3<|.q 4<|.q 5<|.q 7<|.q 9<|.q 10<|.q 11<|.q 12<|.q 13<|.q 14<|.q 16<|.q 17<|.q 6<|.q 8<|.q 15<|.q 18<|.q 19<|.q 20<|.q 21<|.f<|.one 22<|.f<|.one 23<|.done) (by kernel_rfl) ?_
   simp[h,List.getElem?_eq_getElem h,dc,ak,ai,c1];refine FC.aJ hky ?_;simp[h,List.getElem?_eq_getElem h,dc,ak,ai];refine FC.aJ hfo ?_;simp[h,List.getElem?_eq_getElem h,dc,ak,ai,aA.plain.all];refine⟨aA.nb,EC.aJ (aC.OW (v:=.d (.k (.bool (decide ((⟨⟨x.aa.at_,x.aa.key,fo⟩,1⟩:Item)∈out))))) (by simp only[xV,fz,aA.fz];exact yC)) ?_⟩
   by_cases hm:(⟨⟨x.aa.at_,x.aa.key,fo⟩,1⟩:Item)∈out
   ·rw[if_pos hm]at dz;simp[hm];exact NX.go (i+1,y,H2) (by simp only;omega) ⟨h,by rw[dz];exact aA⟩ (by simp[aA.only,eU,ai,q])
   ·rw[if_neg hm]at dz;simp[hm,aA.plain.all];refine eE.dJ (ys:=[ak ⟨⟨x.aa.at_,x.aa.key,fo⟩,1⟩]) eW rfl dO (by simp) (x:=y) (by simp) aA (by simp[ak,rowsOf]) (by simp) (bl _) (ef _) (by simp only[List.length_map,List.length_singleton];omega) (by simp) λx' H3 aG _ _=>?_
    simp[aG.plain.all,aG.only,eU];rw[cS,<-dz]at aG;exact NX.go (i+1,x',H3) (by simp only;omega) ⟨h,aG⟩ (by simp[aG.only,ai,q])
  ·simp[h,List.getElem?_eq_getElem h,dc,ak,aA.plain.all,ai,q];refine AW.draw cc [(18,.n),(19,.n)] (.q 0<|.q 1<|.q 2<|.q 3<|.q 4<|.q 5<|.q 7<|.q 9<|.q 10<|.q 11<|.q 12<|.q 13<|.q 14<|.q 16<|.q 17<|.q 6<|.q 8<|.q 15<|.q 18<|.q 19<|.q 20<|.q 21<|.f<|.one 22<|.f<|.one 23<|.done) (by kernel_rfl) ?_
   simp[h,List.getElem?_eq_getElem h,dc,ak,ai];refine FC.aJ hky ?_;simp[h,List.getElem?_eq_getElem h,dc,ak,ai];refine FC.aJ hfo ?_;simp[h,List.getElem?_eq_getElem h,dc,ak,ai,aA.plain.all];refine⟨aA.nb,EC.aJ (aC.OW (v:=.d (.k (.bool (decide ((⟨⟨x.aa.at_,x.aa.key,fo⟩,1⟩:Item)∈out))))) (by simp only[xV,fz,aA.fz];exact yC)) ?_⟩
   by_cases hm:(⟨⟨x.aa.at_,x.aa.key,fo⟩,1⟩:Item)∈out
   ·rw[if_pos hm]at dz;simp[hm];exact NX.go (i+1,y,H2) (by simp only;omega) ⟨h,by rw[dz];exact aA⟩ (by simp[aA.only,eU,ai,q])
   ·rw[if_neg hm]at dz;simp[hm,aA.plain.all];refine eE.dJ (ys:=[ak ⟨⟨x.aa.at_,x.aa.key,fo⟩,1⟩]) eW rfl dO (by simp) (x:=y) (by simp) aA (by simp[ak,rowsOf]) (by simp) (bl _) (ef _) (by simp only[List.length_map,List.length_singleton];omega) (by simp) λx' H3 aG _ _=>?_
    simp[aG.plain.all,aG.only,eU];rw[cS,<-dz]at aG;exact NX.go (i+1,x',H3) (by simp only;omega) ⟨h,aG⟩ (by simp[aG.only,ai,q])
 ·have:i=l.length:=by omega
  subst this;rw[List.take_length]at aA;simp[aA.plain.all];exact λhz=>⟨H,aO aA.nx aA.ob hw.none,by rw[aA.fz];trivial,aA.fz,rfl⟩
theorem GC(e:bw)(l:List Item)(hn:0<=e.n/\e.n<=1000)(hf4:1<=e.fold/\e.fold<=4)(hl:l.length<=1000)(hb:∀x∈l,0<=x.aa.at_/\x.aa.at_<=200/\Co x):
  aC prog 203 [lv (aQ e),sl (l.map ak)] (sl ((ej (iK e.fold e.n (ix e.n) l) l).map ak)):=by
 intro H;have cc:=ar (p:=aY [2] [] []);refine aF.bD (ar (p:=aY [2] [] [])) func203 rfl call203 (by rw[ntmps203];simp) rfl λhf hw=>?_
 simp[ntmps203,results203,ai]at hf|-;refine AW.aU cc (λs:Nat×LV×GH=>⟨[(1,sl (l.map ak)),(2,.ip ((aQ e).map .d) 0),(5,s.2.1),(6,aH s.1)],[],s.2.2⟩) (λs=>l.length-s.1)
  (λs=>s.1<=l.length/\cm 86 4 H s.2.1 ((ej (iK e.fold e.n (ix e.n) l) (l.take s.1)).map ak) s.2.2) (0,.d (.k (.slice none 0 0)),H) ⟨⟨Nat.zero_le _,cm.nil⟩,by simp[ai]⟩ ?_
 rintro⟨i,y,H2⟩ ⟨hi',aA⟩;simp only at hi' aA;simp;refine⟨λh=>?_,λh=>?_⟩
 ·obtain⟨x,dc⟩:∃x,l[i]=x:=⟨_,rfl⟩;obtain⟨hx1,hx2,hxo⟩:=hb x (dc▸List.getElem_mem h);have fU:l.take (i+1)=l.take i++[x]:=by rw[<-aR h,dc]
  have eU:=aB (n:=9223372036854775807) (show i<9223372036854775807 by omega)
  have dz:=kE (iK e.fold e.n (ix e.n) l) (l.take i) x;rw[<-fU]at dz;have FY:=um (iK e.fold e.n (ix e.n) l) (l.take i);have hlt:(l.take i).length<=i:=by simp;omega
  obtain⟨out,hout⟩:∃out,ej (iK e.fold e.n (ix e.n) l) (l.take i)=out:=⟨_,rfl⟩;rw[hout]at dz aA FY;have hwp:IntKind.i64.wrap (x.aa.at_+1)=x.aa.at_+1:=by rw[wrap64]<;>omega
  have hwn:IntKind.i64.wrap (x.aa.at_+e.n)=x.aa.at_+e.n:=by rw[wrap64]<;>omega
  have lg:=ng l x.aa.key (x.aa.at_+1) (x.aa.at_+e.n) hl;have hwl:=qx l x.aa.key (x.aa.at_+1) (x.aa.at_+e.n);obtain⟨ah,hah⟩:∃ah,dF l x.aa.key (x.aa.at_+1) (x.aa.at_+e.n)=ah:=⟨_,rfl⟩;rw[hah]at lg hwl;simp at lg;simp[h,List.getElem?_eq_getElem h,dc,ak,aA.plain.all,ai,hwp,hwn];refine EC.aJ lg ?_;simp;refine⟨λq=>?_,λq=>?_⟩
  ·have Fg:iK e.fold e.n (ix e.n) l x=none:=by
    unfold iK ix;rw[hah];cases ah with
    |nil=>simp at q
    |cons _ _=>rfl
   rw[Fg]at dz;exact NX.go (i+1,y,H2) (by simp only;omega) ⟨h,by rw[dz];exact aA⟩ (by simp[aA.only,eU,ai])
  ·have hah0:ah=[]:=by simpa using q
   subst hah0;obtain⟨LOW,hLOW⟩:∃LOW,wk e.n l x.aa.key 201 x.aa.at_=LOW:=⟨_,rfl⟩;have hsp:ix e.n l x.aa.key x.aa.at_=some (LOW,x.aa.at_):=by unfold ix;rw[hah,hLOW]
   refine AW.aU cc (λu:Bool×Nat×Int=>⟨[(1,sl (l.map ak)),(2,.ip ((aQ e).map .d) 0),(5,y),(6,aH i),(7,.lp 7 0),(8,aH u.2.2),(9,.d (.k (.bool u.1)))],[(7,(bN x.aa).map .d)],H2⟩) (λu=>u.2.1+(if u.1 then 1 else 0))
    (λu=>0<=u.2.2/\u.2.2<=200/\(u.1=true->u.2.2<=u.2.1/\wk e.n l x.aa.key u.2.1 u.2.2=LOW)/\(u.1=false->u.2.2=LOW)) (true,201,x.aa.at_) ⟨⟨hx1,hx2,λ_=>⟨by simp only;omega,hLOW⟩,λq=>by cases q⟩,by simp[aA.only,ai,bN]⟩ ?_
   rintro⟨more,j,low⟩ ⟨hl0,PN,ht,hff⟩;simp only at hl0 PN ht hff;simp;refine⟨λhm=>?_,λhm=>?_⟩
   ·obtain⟨ht1,ht2⟩:=ht hm;have Rm:IntKind.i64.wrap (low-e.n)=low-e.n:=by rw[wrap64]<;>omega
    have hw1:IntKind.i64.wrap (low-1)=low-1:=by rw[wrap64]<;>omega
    have hk2:=ng l x.aa.key (low-e.n) (low-1) hl;have hwm:∀z∈dF l x.aa.key (low-e.n) (low-1),0<=z.aa.at_/\z.aa.at_<=low-1:=λz hz=>⟨(hb z (lX.1 hz).1).1,(lX.1 hz).2.2.2⟩
    obtain⟨bk,hbk⟩:∃bk,dF l x.aa.key (low-e.n) (low-1)=bk:=⟨_,rfl⟩;rw[hbk]at hk2 hwm;simp at hk2;simp[ai,bN,Rm,hw1];refine EC.aJ hk2 ?_;cases bk with
    |nil=>
     simp;refine NX.go (false,j,low) (by simp[hm]) ⟨hl0,PN,(λq=>by cases q),λ_=>?_⟩ (by simp[aA.only,ai,bN])
     cases j with
     |zero=>exact ht2
     |succ j=>rw[wk,hbk]at ht2;exact ht2
    |cons z bk=>
     have hz:=hwm z (by simp)
     obtain⟨j',rfl⟩:∃j',j=j'+1:=⟨j-1,by omega⟩
     rw[wk,hbk]at ht2;simp[ak];exact NX.go (true,j',z.aa.at_) (by simp[hm]) ⟨hz.1,by simp only;omega,λ_=>⟨by simp only;omega,ht2⟩,λq=>by cases q⟩ (by simp[aA.only,ai,bN])
   ·have Vx:=hff hm;subst Vx;have Fg:iK e.fold e.n (ix e.n) l x=some ⟨x.aa.at_+e.n,x.aa.key,foldI e.fold (dF l x.aa.key low x.aa.at_)⟩:=by
     unfold iK;rw[hsp]
    have hky:=ng l x.aa.key low x.aa.at_ hl;have hfo:=uX e.fold hf4 (dF l x.aa.key low x.aa.at_) (Nat.le_trans (qx _ _ _ _) hl) λz hz=>(hb z (lX.1 hz).1).2.2
    simp at hky hfo;obtain⟨fo,hfoe⟩:∃fo,foldI e.fold (dF l x.aa.key low x.aa.at_)=fo:=⟨_,rfl⟩;rw[hfoe]at hfo Fg;rw[Fg]at dz;simp only at dz;have yC:=CS out ⟨⟨x.aa.at_+e.n,x.aa.key,fo⟩,1⟩ (by omega)
    simp[ak]at yC;refine AW.draw cc [(15,.n),(16,.n)] (.q 0<|.q 2<|.q 5<|.q 7<|.q 9<|.q 10<|.q 12<|.q 13<|.q 1<|.q 3<|.q 4<|.q 6<|.q 8<|.q 11<|.q 14<|.q 15<|.q 16<|.q 17<|.q 18<|.f<|.one 19<|.f<|.one 20<|.done) (by kernel_rfl) ?_
    simp[ai,bN,hwn];refine FC.aJ hky ?_;simp[ai,bN];refine FC.aJ hfo ?_;simp[ak,ai,aA.plain.all];refine⟨aA.nb,EC.aJ (aC.OW (v:=.d (.k (.bool (decide ((⟨⟨x.aa.at_+e.n,x.aa.key,fo⟩,1⟩:Item)∈out))))) (by simp only[xV,fz,aA.fz];exact yC)) ?_⟩
    by_cases hmm:(⟨⟨x.aa.at_+e.n,x.aa.key,fo⟩,1⟩:Item)∈out
    ·rw[if_pos hmm]at dz;simp[hmm];exact NX.go (i+1,y,H2) (by simp only;omega) ⟨h,by rw[dz];exact aA⟩ (by simp[aA.only,eU,ai])
    ·rw[if_neg hmm]at dz;simp[hmm,aA.plain.all];refine eE.dJ (ys:=[ak ⟨⟨x.aa.at_+e.n,x.aa.key,fo⟩,1⟩]) eW rfl dO (by simp) (x:=y) (by simp) aA (by simp[ak,rowsOf]) (by simp) (bl _) (ef _) (by simp only[List.length_map,List.length_singleton];omega) (by simp) λx' H3 aG _ _=>?_
     simp[aG.plain.all,aG.only,eU];rw[cS,<-dz]at aG;exact NX.go (i+1,x',H3) (by simp only;omega) ⟨h,aG⟩ (by simp[aG.only,ai])
 ·have:i=l.length:=by omega
  subst this;rw[List.take_length]at aA;simp[aA.plain.all];exact λhz=>⟨H,aO aA.nx aA.ob hw.none,by rw[aA.fz];trivial,aA.fz,rfl⟩
def NdB(l:List Item):Prop:=l.Pairwise λa b=>cM b.aa a.aa=false
theorem z7{a b:Rec}(h:cM a b=true):cM b a=false:=by
 cases q:cM b a with
 |false=>rfl
 |true=>have:=ko h q;rw[oe]at this;cases this
theorem HJ{a b c:Rec}(h:cM b a=false)(k:cM c b=false):cM c a=false:=by
 simp only[cM,decide_eq_false_iff_not]at*;omega
def EU:Nat->List Item->List Item->List Item
 |0,a,b=>a++b
 |_+1,[],b=>b
 |_+1,x::a,[]=>x::a
 |f+1,x::a,y::b=>if cM y.aa x.aa=true then y::EU f (x::a) b else x::EU f a (y::b)
def HM(a b:List Item):List Item:=EU (a.length+b.length) a b
theorem ET(b:List Item):HM [] b=b:=by
 unfold HM;cases b with
 |nil=>rfl
 |cons y b=>simp only[List.length_nil,List.length_cons,Nat.zero_add];rfl
theorem An(a:List Item):HM a []=a:=by
 unfold HM;cases a with
 |nil=>rfl
 |cons x a=>simp only[List.length_nil,List.length_cons,Nat.add_zero];rfl
theorem Ao(x y:Item)(a b:List Item):HM (x::a) (y::b)=if cM y.aa x.aa=true then y::HM (x::a) b else x::HM a (y::b):=by
 have e:(x::a).length+(y::b).length=(a.length+1+b.length)+1:=by simp only[List.length_cons];omega
 have e2:a.length+(y::b).length=a.length+1+b.length:=by simp only[List.length_cons];omega
 unfold HM;rw[e,e2,EU];rfl
theorem rf:∀(N:Nat) (a b:List Item),a.length+b.length<=N->(HM a b).Perm (a++b)
 |_,[],b,_=>by rw[ET];exact .refl _
 |_,x::a,[],_=>by rw[An];simp
 |0,x::a,y::b,h=>by simp at h
 |N+1,x::a,y::b,h=>by
  rw[Ao];simp only[List.length_cons]at h
  split
  ·exact((rf N (x::a) b (by simp only[List.length_cons];omega)).cons y).trans List.perm_middle.symm
  ·exact(rf N a (y::b) (by simp only[List.length_cons];omega)).cons x
theorem Lh:∀(N:Nat) (a b:List Item),a.length+b.length<=N->NdB a->NdB b->NdB (HM a b)
 |_,[],b,_,_,hb=>by rw[ET];exact hb
 |_,x::a,[],_,ha,_=>by rw[An];exact ha
 |0,x::a,y::b,h,_,_=>by simp at h
 |N+1,x::a,y::b,h,ha,hb=>by
  rw[Ao];simp only[List.length_cons]at h;have ha':=List.pairwise_cons.1 ha;have hb':=List.pairwise_cons.1 hb
  split
  ·rename_i q;refine List.pairwise_cons.2 ⟨λz hz=>?_,Lh N (x::a) b (by simp only[List.length_cons];omega) ha hb'.2⟩
   have qh:=(rf _ (x::a) b (Nat.le_refl _)).mem_iff.1 hz;rcases List.mem_append.1 qh with w|w
   ·rcases List.mem_cons.1 w with w|w
    ·rw[w];exact z7 q
    ·exact HJ (z7 q) (ha'.1 z w)
   ·exact hb'.1 z w
  ·rename_i q;have q:cM y.aa x.aa=false:=by simpa using q
   refine List.pairwise_cons.2 ⟨λz hz=>?_,Lh N a (y::b) (by simp only[List.length_cons];omega) ha'.2 hb⟩
   have qh:=(rf _ a (y::b) (Nat.le_refl _)).mem_iff.1 hz;rcases List.mem_append.1 qh with w|w
   ·exact ha'.1 z w
   ·rcases List.mem_cons.1 w with w|w
    ·rw[w];exact q
    ·exact HJ q (hb'.1 z w)
theorem pq:∀(N:Nat) (l:List Item),l.length<N->l.length<=1000000->∃l':List Item,l'.Perm l/\NdB l'/\aC prog 84 [sl (l.map ak)] (sl (l'.map ak))
 |0,l,h,_=>absurd h (by omega)
 |N+1,l,hN,hM=>by
  by_cases h2:l.length<2
  ·refine⟨l,.refl _,?_,?_⟩
   ·match l,h2 with
    |[],_=>exact .nil
    |[x],_=>exact List.pairwise_singleton _ _
    |x::y::t,h=>exact absurd h (by simp)
   ·intro H;have cc:=ar (p:=aY [] [] []);refine aF.bD (ar (p:=aY [] [] [])) func84 rfl call84 (by rw[ntmps84];simp) rfl λhf hw=>?_
    have A7:(l.length:Int)<2:=by omega
    simp[ntmps84,results84,A7];refine eE.dJ (ys:=l.map ak) (H0:=H) (rows:=[]) (x:=.d (.k (.slice none 0 0))) eW rfl dO (by simp) (by simp) cm.nil (by simp[rowsOf]) (by simp) (by simp) (bl _) (by simp;omega) (by simp) λx' H3 aG _ _=>?_
    simp[aG.plain.all];exact λhz=>⟨H,aO aG.nx aG.ob hw.none,by rw[aG.fz];simp[LV.nb],by rw[aG.fz];rfl,rfl⟩
  ·obtain⟨n,hn⟩:∃n,l.length / 2=n:=⟨_,rfl⟩;obtain⟨a,pa,na,fa⟩:=pq N (l.take n) (by simp;omega) (by simp;omega)
   obtain⟨b,pb,nb,fb⟩:=pq N (l.drop n) (by simp;omega) (by simp;omega)
   have hpl:(a++b).Perm l:=(pa.append pb).trans (by rw[List.take_append_drop])
   have yO:a.length=n:=by rw[pa.length_eq];simp;omega
   have B6:b.length=l.length-n:=by rw[pb.length_eq];simp
   refine⟨HM a b,(rf _ a b (Nat.le_refl _)).trans hpl,Lh _ a b (Nat.le_refl _) na nb,?_⟩;intro H;have cc:=ar (p:=aY [] [] []);refine aF.bD (ar (p:=aY [] [] [])) func84 rfl call84 (by rw[ntmps84];simp) rfl λhf hw=>?_
   have A7:¬(l.length:Int)<2:=by omega
   have hdiv:(l.length:Int) / 2=n:=by omega
   have hnl:n<=l.length:=by omega
   simp at fa fb;simp[ntmps84,results84,A7];refine AW.draw cc [(5,.n),(11,.n)] (.q 0<|.q 1<|.q 6<|.q 7<|.q 2<|.q 3<|.q 4<|.q 5<|.q 8<|.q 9<|.q 10<|.q 11<|.q 12<|.q 13<|.done) (by kernel_rfl) ?_
   have hwd:IntKind.i64.wrap ((l.length:Int) / 2)=n:=by rw[wrap64]<;>omega
   simp[hwd,hnl];refine FC.aJ fa ?_;simp[hwd,hnl];refine FC.aJ fb ?_;simp[hwd,hnl];refine AW.aU cc (λst:List Item×List Item×List Item×LV×GH=>⟨[(3,sl (st.1.map ak)),(4,sl (st.2.1.map ak)),(5,st.2.2.2.1)],[],st.2.2.2.2⟩) (λst=>st.1.length+st.2.1.length)
    (λst=>st.2.2.1.length+st.1.length+st.2.1.length=l.length/\cm 86 4 H st.2.2.2.1 (st.2.2.1.map ak) st.2.2.2.2/\st.2.2.1++HM st.1 st.2.1=HM a b) (a,b,[],.d (.k (.slice none 0 0)),H) ⟨⟨by simp only[List.length_nil];omega,cm.nil,rfl⟩,by simp⟩ ?_
   rintro⟨a1,b1,out,x,H2⟩ ⟨hlen,aA,hM⟩;simp only at hlen aA hM;simp
   match a1,b1,hlen,hM with
   |[],b1,hlen,hM=>
    simp[aA.plain.all];refine eE.dJ (ys:=([]:List Item).map ak) eW rfl dO (by simp) (x:=x) (by simp) aA (by simp[rowsOf]) (by simp) (bl _) (bl _) (by simp at hlen|-;omega) (by simp) λx2 H3 fp _ _=>?_
    simp[fp.plain.all];refine eE.dJ (ys:=b1.map ak) eW rfl dO (by simp) (x:=x2) (by simp) fp (by simp[rowsOf]) (by simp) (by rw[<-List.map_append];exact bl _) (bl _) (by simp at hlen|-;omega) (by simp) λx3 H4 vn _ _=>?_
    simp[vn.plain.all];have hout:out++b1=HM a b:=by rw[<-hM,ET]
    have hfz:fz x3=.d (.sl ((HM a b).map ak)):=by rw[vn.fz,<-hout];simp
    exact λhz=>⟨H,aO vn.nx vn.ob hw.none,by rw[hfz];trivial,hfz,rfl⟩
   |x1::a1,[],hlen,hM=>
    simp[aA.plain.all];refine eE.dJ (ys:=(x1::a1).map ak) eW rfl dO (by simp) (x:=x) (by simp) aA (by simp[rowsOf]) (by simp) (bl _) (bl _) (by simp at hlen|-;omega) (by simp) λx2 H3 fp _ _=>?_
    simp[fp.plain.all];refine eE.dJ (ys:=([]:List Item).map ak) eW rfl dO (by simp) (x:=x2) (by simp) fp (by simp[rowsOf]) (by simp) (by rw[<-List.map_append];exact bl _) (bl _) (by simp at hlen|-;omega) (by simp) λx3 H4 vn _ _=>?_
    simp[vn.plain.all];have hout:out++(x1::a1)=HM a b:=by rw[<-hM,An]
    have hfz:fz x3=.d (.sl ((HM a b).map ak)):=by rw[vn.fz,<-hout];simp
    exact λhz=>⟨H,aO vn.nx vn.ob hw.none,by rw[hfz];trivial,hfz,rfl⟩
   |x1::a1,y1::b1,hlen,hM=>
    have hls:=KF y1.aa x1.aa;simp[bN]at hls;rw[Ao]at hM;simp;refine AW.draw cc [(8,.n)] (.q 0<|.q 1<|.q 2<|.q 4<|.q 5<|.q 6<|.q 3<|.q 7<|.q 8<|.done) (by kernel_rfl) ?_
    simp[ak];refine FC.aJ hls ?_;cases hq:cM y1.aa x1.aa with
    |true=>
     rw[if_pos hq]at hM;simp[aA.plain.all,ak];refine eE.dJ (ys:=[ak y1]) eW rfl dO (by simp) (x:=x) (by simp) aA (by simp[rowsOf,ak]) (by simp) (bl _) (by simp) (by simp at hlen|-;omega) (by simp) λx2 H3 fp _ _=>?_
     simp[fp.plain.all];refine⟨by omega,?_⟩
     rw[show out.map ak++[ak y1]=(out++[y1]).map ak by simp]at fp
     exact NX.go (x1::a1,b1,out++[y1],x2,H3) (by simp only[List.length_cons];omega) ⟨by simp only[List.length_cons,List.length_append,List.length_nil]at hlen|-;omega,fp,by rw[List.append_assoc];exact hM⟩ (by simp[fp.only,ak])
    |false=>
     rw[if_neg (by rw[hq];simp)]at hM
     simp[aA.plain.all,ak];refine eE.dJ (ys:=[ak x1]) eW rfl dO (by simp) (x:=x) (by simp) aA (by simp[rowsOf,ak]) (by simp) (bl _) (by simp) (by simp at hlen|-;omega) (by simp) λx2 H3 fp _ _=>?_
     simp[fp.plain.all];refine⟨by omega,?_⟩
     rw[show out.map ak++[ak x1]=(out++[x1]).map ak by simp]at fp
     exact NX.go (a1,y1::b1,out++[x1],x2,H3) (by simp only[List.length_cons];omega) ⟨by simp only[List.length_cons,List.length_append,List.length_nil]at hlen|-;omega,fp,by rw[List.append_assoc];exact hM⟩ (by simp[fp.only,ak])
end Go.Aft
end
