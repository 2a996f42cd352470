import Derived.Test.YthinedikejlgmaaGreatA30
import Derived.Test.YthinedikejlgmaaGreatA29
import Derived.Test.YthinedikejlgmaaGreatA18
set_option linter.all false
section
set_option maxRecDepth 20000
namespace Go.Aft
def BM(p:Prog)(az:List cg)(g:List Nat)(ring:Bool)(ai:List cg):Option (List cg):=if ring=true then fV p az 1 g 202 0 ai else fq p az 200 g ai
def qf(p:Prog)(az:List cg)(R:Nat->Nat->Bool):List (List Nat)->List cg->Option (List cg)
 |[],ai=>some ai
 |g::gs,ai=>match BM p az g (R (g.headD 0) (g.headD 0)) ai with
  |none=>none
  |some defs'=>qf p az R gs defs'
theorem fS{p:Prog}{d:Nat}(h:d<p.ai.length):cQ p d=p.ai[d].exp:=by
 unfold cQ;rw[List.getD_eq_getElem?_getD,List.getElem?_eq_getElem h];rfl
theorem iZ{p:Prog}{i k:Nat}:aZ p i k=true↔Path (gb p) i k:=by simp[aZ]
theorem fp{p:Prog}{i j k:Nat}(h1:aZ p i j=true)(h2:aZ p j k=true):aZ p i k=true:=iZ.2 ((iZ.1 h1).trans (iZ.1 h2))
theorem Yw{p:Prog}{d:Nat}(hd:d<p.ai.length){x:bz}(hx:x∈bc p.ai[d].exp)(ho:x.op=2\/ x.op=3)(hi:0<=idx (an p) x.name):aZ p d (idx (an p) x.name).toNat=true:=
 iZ.2 (.one ⟨hd,x,hx,ho,by omega⟩)
theorem Gl{p:Prog}{g:List Nat}:∀(l:List bz) (v:Int),kC p g l v<=v
 |[],v=>Int.le_refl _
 |e::l,v=>by
  have h1:=Gl (p:=p) (g:=g) l (sy p g v e);have h2:sy p g v e<=v:=by
   unfold sy
   split
   ·unfold gW;split<;>omega
   ·exact Int.le_refl _
  exact Int.le_trans h1 h2
theorem JR{p:Prog}{g:List Nat}{x:bz}(h3:x.op=3)(hi:idx (an p) x.name∈bX g):∀(l:List bz) (v:Int),x∈l->kC p g l v<=x.n
 |e::l,v,h=>by
  have e1:kC p g (e::l) v=kC p g l (sy p g v e):=rfl;rw[e1];rcases List.mem_cons.1 h with q|q
  ·subst q;have h2:sy p g v x<=x.n:=by unfold sy;rw[if_pos ⟨h3,hi⟩];unfold gW;split<;>omega
   exact Int.le_trans (Gl l _) h2
  ·exact JR h3 hi l _ q
theorem N4{p:Prog}{g:List Nat}{m:Int}:∀(l:List bz) (v:Int),m<=v->(∀x∈l,x.op=3->idx (an p) x.name∈bX g->m<=x.n)->m<=kC p g l v
 |[],v,h,_=>h
 |e::l,v,h,hx=>by
  have e1:kC p g (e::l) v=kC p g l (sy p g v e):=rfl;rw[e1];refine N4 l _ ?_ λx hx'=>hx x (List.mem_cons_of_mem _ hx')
  unfold sy
  split
  ·rename_i q;have:=hx e (List.mem_cons_self ..) q.1 q.2;unfold gW;split<;>omega
  ·exact h
theorem zD{p:Prog}{g:List Nat}(ex:Nat->List bz):∀(l:List Nat) (v:Int),l.foldl (λv d=>kC p g (ex d) v) v<=v
 |[],v=>Int.le_refl _
 |d::l,v=>by rw[List.foldl_cons];exact Int.le_trans (zD ex l _) (Gl _ _)
theorem JS{p:Prog}{g:List Nat}(ex:Nat->List bz){x:bz}{d:Nat}(hx:x∈ex d)(h3:x.op=3)(hi:idx (an p) x.name∈bX g):∀(l:List Nat) (v:Int),d∈l->l.foldl (λv d=>kC p g (ex d) v) v<=x.n
 |e::l,v,h=>by
  rw[List.foldl_cons];rcases List.mem_cons.1 h with q|q
  ·subst q;exact Int.le_trans (zD ex l _) (JR h3 hi _ _ hx)
  ·exact JS ex hx h3 hi l _ q
theorem zF{p:Prog}{g:List Nat}(ex:Nat->List bz){m:Int}:∀(l:List Nat) (v:Int),m<=v->(∀d∈l,∀x∈ex d,x.op=3->idx (an p) x.name∈bX g->m<=x.n)->m<=l.foldl (λv d=>kC p g (ex d) v) v
 |[],v,h,_=>h
 |d::l,v,h,hx=>by
  rw[List.foldl_cons];exact zF ex l _ (N4 _ _ h (hx d (List.mem_cons_self ..))) λe he=>hx e (List.mem_cons_of_mem _ he)
theorem II{g:List Nat}{z:Int}(h:0<=z):z∈bX g↔z.toNat∈g:=by
 unfold bX;rw[List.mem_map];constructor
 ·rintro⟨k,hk,rfl⟩;simpa using hk
 ·intro q;exact⟨z.toNat,q,by simp;omega⟩
theorem HK{p:Prog}(hp:formed p){d:Nat}(hd:d<p.ai.length)(hr:aZ p d d=true):Cz p (bQ p.ai.length (aZ p) d) (tJ p (bQ p.ai.length (aZ p) d)):=by
 obtain⟨g,hg⟩:∃g,bQ p.ai.length (aZ p) d=g:=⟨_,rfl⟩;rw[hg];have hlt:∀k∈g,k<p.ai.length:=λk hk=>by rw[<-hg]at hk;exact(bL.1 hk).1
 have ax8:∀k∈g,aZ p k k=true:=λk hk=>by
  rw[<-hg]at hk;rcases(bL.1 hk).2 with q|⟨q1,q2⟩
  ·rw[q];exact hr
  ·exact fp q2 q1
 have Ju:∀k∈g,∀x∈bc (cQ p k),ur p k x/\bJ x=false:=λk hk x hx=>by
  rw[fS (hlt k hk)]at hx;exact⟨gq hp (hlt k hk) x hx,hp.2 k (hlt k hk) (iZ.1 (ax8 k hk)) x hx⟩
 have Em:∀k∈g,∀x∈bc (cQ p k),1<=x.op/\sP x.op x.n:=λk hk x hx=>by
  obtain⟨q1,q2⟩:=Ju k hk x hx;have q3:=q1.W4;unfold bJ at q2;have q4:=of_decide_eq_false q2;exact⟨q3.1,λh=>q4 (.inl h),λh=>by omega,q3.2.2.2.1,λh=>by have:=q3.2.2.2.2.1 h;omega⟩
 have ad5:∀k∈g,∀x∈bc (cQ p k),x.op=3->(idx (an p) x.name).toNat∈g->tJ p g<=x.n:=λk hk x hx h3 hi=>by
  have:=((Ju k hk x hx).1.node.df (.inr h3));exact JS (λd=>bc (cQ p d)) hx h3 ((II this).2 hi) g 201 hk
 refine⟨?_,Em,λk hk x hx h2 _=>?_,ad5,?_⟩
 ·rw[<-hg];exact List.Pairwise.filter _ List.pairwise_lt_range
 ·have h1:=(Ju k hk x hx).1.lt h2;have h3:=(Ju k hk x hx).1.node.df (.inl h2);omega
 ·exact zF (λd=>bc (cQ p d)) g 201 (by omega) λk hk x hx h3 _=>((Ju k hk x hx).1.W4.2.2.1 h3).1
theorem I7{p:Prog}(hp:formed p){d:Nat}(hd:d<p.ai.length)(hr:aZ p d d=false):tJ p [d]=201:=by
 have h1:tJ p [d]<=201:=zD (g:=[d]) (λd=>bc (cQ p d)) [d] 201
 have h2:201<=tJ p [d]:=zF (g:=[d]) (λd=>bc (cQ p d)) [d] 201 (Int.le_refl _) λk hk x hx h3 hi=>by
  have:=List.mem_singleton.1 hk;subst this;rw[fS hd]at hx;have h0:=(gq hp hd x hx).node.df (.inr h3);have h4:=Yw hd hx (.inr h3) h0;rw[II h0,List.mem_singleton]at hi;rw[hi,hr]at h4;cases h4
 omega
def qK(p:Prog)(g:List Nat):Prop:=∃d,d<p.ai.length/\g=fK p.ai.length (aZ p) d
theorem qK.lt{p:Prog}{g:List Nat}(h:qK p g){k:Nat}(hk:k∈g):k<p.ai.length:=by
 obtain⟨d,hd,rfl⟩:=h;exact xg hd hk
theorem PK{g:List Nat}{k:Nat}(h:k∈g):g.headD 0∈g:=by
 cases g with
 |nil=>cases h
 |cons a g=>exact List.mem_cons_self ..
theorem MH{p:Prog}(hp:formed p){az:List cg}{g:List Nat}(hg:qK p g){ai:List cg}(hl:ai.length=p.ai.length)(h0:∀d∈g,bq ai d=[]):
  mS p az g ai=BM p az g (aZ p (g.headD 0) (g.headD 0)) ai:=by
 have hlt:=λk=>hg.lt (k:=k)
 obtain⟨d,hd,e⟩:=hg;unfold mS BM;cases hr:aZ p d d with
 |true=>
  have e2:g=bQ p.ai.length (aZ p) d:=by rw[e,fK,if_pos hr]
  have Db:=HK hp hd hr;rw[<-e2]at Db;have Eg:aZ p (g.headD 0) (g.headD 0)=true:=by
   have hm:g.headD 0∈g:=PK (k:=d) (by rw[e];exact fQ hd)
   rw[e2]at hm;rcases(bL.1 hm).2 with q|⟨q1,q2⟩
   ·rw[e2,q];exact hr
   ·rw[e2];exact fp q2 q1
  rw[if_pos Eg];exact OM Db (λk hk=>by rw[hl];exact hlt k hk) h0
 |false=>
  have e2:g=[d]:=by rw[e,fK,if_neg (by rw[hr];simp)]
  subst e2;rw[show([d]:List Nat).headD 0=d from rfl,hr,if_neg (by simp),I7 hp hd hr]
  have hm:gW ((201:Int)-1) 200=200:=rfl;rw[hm,fV];cases fq p az 200 [d] ai<;>rfl
theorem BJ{p:Prog}{az:List cg}{g:List Nat}(hn:g.Nodup):∀(f:Nat) (far top:Int) (ai D:List cg),(∀d∈g,d<ai.length)->fV p az far g f top ai=some D->Out g D ai
 |0,_,_,ai,D,_,h=>by rw[fV]at h;cases h;exact⟨rfl,λ_ _=>rfl⟩
 |f+1,far,top,ai,D,hl,h=>by
  rw[fV]at h
  split at h
  ·cases h
  ·rename_i d1 h1;have ho:=(wU g ai d1 h1 hn hl).1
   split at h
   ·cases h;exact ho
   ·exact(BJ hn f far _ d1 D (λd hd=>by rw[ho.1];exact hl d hd) h).trans ho
theorem qK.nodup{p:Prog}{g:List Nat}(h:qK p g):g.Nodup:=by
 obtain⟨d,hd,rfl⟩:=h;unfold fK
 split
 ·exact List.Pairwise.filter _ List.nodup_range
 ·simp
theorem PS{p:Prog}{az:List cg}{g:List Nat}(hg:qK p g){ai D:List cg}(hl:ai.length=p.ai.length)(h:mS p az g ai=some D):Out g D ai:=
 BJ hg.nodup _ _ _ _ _ (λd hd=>by rw[hl];exact hg.lt hd) h
theorem yG{p:Prog}(hp:formed p){az:List cg}:∀(gs:List (List Nat)) (ai:List cg),(∀g∈gs,qK p g)->gs.Pairwise (λg h=>∀d∈h,d∉g)->ai.length=p.ai.length->(∀g∈gs,∀d∈g,bq ai d=[])->
  dX p az gs ai=qf p az (aZ p) gs ai
 |[],ai,_,_,_,_=>rfl
 |g::gs,ai,hg,hpw,hl,h0=>by
  have hp':=List.pairwise_cons.1 hpw;have Ws:=hg g (List.mem_cons_self ..);have hs:=MH hp (az:=az) Ws hl (h0 g (List.mem_cons_self ..));rw[dX,qf,<-hs];cases hk:mS p az g ai with
  |none=>rfl
  |some D=>
   have ho:=PS Ws hl hk;simp only;refine yG hp gs D (λg' hg'=>hg g' (List.mem_cons_of_mem _ hg')) hp'.2 (ho.1.trans hl) λg' hg' d hd=>?_
   rw[ho.2 d (hp'.1 g' hg' d hd)];exact h0 g' (List.mem_cons_of_mem _ hg') d hd
theorem NB{p:Prog}{d k:Nat}(hd:d<p.ai.length)(h:k∈fK p.ai.length (aZ p) d):d∈fK p.ai.length (aZ p) k:=by
 unfold fK at h
 split at h
 ·rename_i hr;obtain⟨hk,q⟩:=bL.1 h;rcases q with q|⟨q1,q2⟩
  ·subst q;exact fQ hd
  ·unfold fK;rw[if_pos (fp q2 q1)];exact bL.2 ⟨hd,.inr ⟨q2,q1⟩⟩
 ·rw[List.mem_singleton.1 h];exact fQ hd
theorem jj{p:Prog}:∀(f:Nat) (D:List Nat),(∀x∈D,x<p.ai.length/\∀k∈fK p.ai.length (aZ p) x,k∈D)->
  (∀g∈dM p.ai.length (aZ p) f D,qK p g/\∀d∈g,d∉D)/\(dM p.ai.length (aZ p) f D).Pairwise λg h=>∀d∈h,d∉g
 |0,D,_=>⟨λg hg=>absurd hg List.not_mem_nil,.nil⟩
 |f+1,D,hD=>by
  rw[dM]
  split
  ·split
   ·exact⟨λg hg=>absurd hg List.not_mem_nil,.nil⟩
   ·rename_i d hf;have hd:d<p.ai.length:=List.mem_range.1 (List.mem_of_find?_eq_some hf);have hrd:=List.find?_some hf;have CH:d∉D:=by
     unfold fC at hrd;rw[Bool.and_eq_true]at hrd;simpa using hrd.1
    have MB:∀k∈fK p.ai.length (aZ p) d,k∉D:=λk hk PE=>CH ((hD k PE).2 d (NB hd hk))
    have hD':∀x∈cR D (fK p.ai.length (aZ p) d),x<p.ai.length/\∀k∈fK p.ai.length (aZ p) x,k∈cR D (fK p.ai.length (aZ p) d):=λx hx=>by
     rcases cC.1 hx with q|q
     ·exact⟨(hD x q).1,λk hk=>cC.2 (.inl ((hD x q).2 k hk))⟩
     ·refine⟨xg hd q,λk hk=>cC.2 (.inr ?_)⟩
      unfold fK at q
      split at q
      ·rename_i hr;rcases(bL.1 q).2 with e|⟨q1,q2⟩
       ·rw[e]at hk;exact hk
       ·have hxx:=fp q2 q1;unfold fK at hk|-;rw[if_pos hxx]at hk;rw[if_pos hr];refine bL.2 ⟨(bL.1 hk).1,?_⟩;rcases(bL.1 hk).2 with e|⟨r1,r2⟩
        ·rw[e];exact .inr ⟨q1,q2⟩
        ·exact .inr ⟨fp q1 r1,fp r2 q2⟩
      ·rw[List.mem_singleton.1 q]at hk;exact hk
    obtain⟨i1,i2⟩:=jj f _ hD';refine⟨λg hg=>?_,List.pairwise_cons.2 ⟨λg hg k hk PD=>?_,i2⟩⟩
    ·rcases List.mem_cons.1 hg with q|q
     ·rw[q];exact⟨⟨d,hd,rfl⟩,MB⟩
     ·exact⟨(i1 g q).1,λk hk PE=>(i1 g q).2 k hk (cC.2 (.inl PE))⟩
    ·exact(i1 g hg).2 k hk (cC.2 (.inr PD))
  ·exact⟨λg hg=>absurd hg List.not_mem_nil,.nil⟩
theorem Mh{p:Prog}(hp:formed p)(l:List Event):dw p l=qf p (fH p l) (aZ p) (gK p.ai.length (aZ p)) (List.replicate p.ai.length []):=by
 obtain⟨h1,h2⟩:=jj (p:=p) p.ai.length [] (λx hx=>absurd hx List.not_mem_nil)
 refine yG hp _ _ (λg hg=>(h1 g hg).1) h2 (by simp) λg hg d hd=>?_
 unfold bq;rw[List.getD_eq_getElem?_getD,List.getElem?_replicate]
 split<;>rfl
theorem vM{α β:Type}{f:α->β}:∀{l:List α},(l.map f).Nodup->l.Nodup
 |[],_=>.nil
 |a::l,h=>by
  have:=List.nodup_cons.1 h;exact List.nodup_cons.2 ⟨λq=>this.1 (List.mem_map.2 ⟨a,q,rfl⟩),vM this.2⟩
abbrev uk(g:List Nat):Nat:=g.headD 0
def ji(n:Nat)(R:Nat->Nat->Bool):List (List Nat):=dO n R++((List.range n).filter λd=>!R d d).map λd=>[d]
def rG(n:Nat)(R:Nat->Nat->Bool)(D:List Nat)(f:Nat):Bool:=!D.contains f&&(List.range n).all λk=>!R f k||R k f||D.contains k
def D6(o:Option (List Nat))(g:List Nat):Bool:=match o with
 |none=>true
 |some b=>decide (uk g<uk b)
def sH(rdy:Nat->Bool)(Gs:List (List Nat)):Option (List Nat):=Gs.foldl (λo g=>if(rdy (uk g)&&D6 o g)=true then some g else o) none
def tZ(n:Nat)(R:Nat->Nat->Bool):Nat->List Nat->List (List Nat)
 |0,_=>[]
 |f+1,D=>match sH (rG n R D) (ji n R)with
  |none=>[]
  |some g=>g::tZ n R f (cR D g)
def VP(n:Nat)(R:Nat->Nat->Bool):List (List Nat):=tZ n R (ji n R).length []
theorem Cb(rdy:Nat->Bool)(Gs:List (List Nat))(g:List Nat):sH rdy (Gs++[g])=if(rdy (uk g)&&D6 (sH rdy Gs) g)=true then some g else sH rdy Gs:=by
 rw[sH,List.foldl_append];rfl
theorem TE{rdy:Nat->Bool}{g0:List Nat}(hr:rdy (uk g0)=true):∀Gs:List (List Nat),(∀g∈Gs,rdy (uk g)=true->g=g0\/ uk g0<uk g)->
  (sH rdy Gs=none\/ ∃b∈Gs,rdy (uk b)=true/\sH rdy Gs=some b)/\(g0∈Gs->sH rdy Gs=some g0):=by
 refine iI (λ_=>⟨.inl rfl,λh=>absurd h List.not_mem_nil⟩) λGs g ih hg=>?_
 obtain⟨i1,i2⟩:=ih λx hx=>hg x (List.mem_append_left _ hx)
 have Ws:=hg g (by simp)
 rw[Cb];constructor
 ·split
  ·rename_i q;rw[Bool.and_eq_true]at q;exact .inr ⟨g,by simp,q.1,rfl⟩
  ·rcases i1 with q|⟨b,hb,q1,q2⟩
   ·exact .inl q
   ·exact .inr ⟨b,List.mem_append_left _ hb,q1,q2⟩
 ·intro h0;by_cases e:g=g0
  ·subst e;rcases i1 with q|⟨b,hb,q1,q2⟩
   ·rw[q,hr];rfl
   ·rcases hg b (List.mem_append_left _ hb) q1 with q|q
    ·rw[q2,q,if_neg (by simp[D6])]
    ·rw[q2,if_pos (by rw[hr];exact decide_eq_true q)]
  ·have hm:g0∈Gs:=by
    rcases List.mem_append.1 h0 with q|q
    ·exact q
    ·exact absurd (List.mem_singleton.1 q).symm e
   rw[i2 hm];by_cases q:rdy (uk g)=true
   ·have:=(Ws q).resolve_left e;rw[if_neg];rw[Bool.and_eq_true];rintro⟨_,w⟩;have:=of_decide_eq_true (show decide (uk g<uk g0)=true from w)
    omega
   ·rw[if_neg];rw[Bool.and_eq_true];exact λw=>q w.1
section
variable {n:Nat} {R:Nat->Nat->Bool} (ht:∀i j k,R i j=true->R j k=true->R i k=true)
include ht
theorem yb{d k:Nat}(hk:k<n)(h:R d k=true):k∈fK n R d↔R k d=true:=by
 unfold fK
 split
 ·rename_i hd;rw[bL];constructor
  ·rintro⟨_,e|q⟩
   ·rw[e];exact hd
   ·exact q.2
  ·intro q;exact⟨hk,.inr ⟨h,q⟩⟩
 ·rename_i hd;rw[List.mem_singleton];constructor
  ·intro e;rw[e]at h;exact absurd h hd
  ·intro q;exact absurd (ht _ _ _ h q) hd
theorem uB{D:List Nat}(d:Nat):fC n R D d=rG n R D d:=by
 rw[Bool.eq_iff_iff];unfold fC rG;rw[Bool.and_eq_true,Bool.and_eq_true];refine and_congr Iff.rfl ?_;rw[Bool.not_eq_true',List.any_eq_false,List.all_eq_true];constructor
 ·intro h k hk;cases q:R d k with
  |false=>rfl
  |true=>
   have h1:=h k (List.mem_filter.2 ⟨hk,q⟩);cases q2:R k d with
   |true=>rfl
   |false=>
    have h2:k∉fK n R d:=λw=>by rw[(yb ht (List.mem_range.1 hk) q).1 w]at q2;cases q2
    simp[h2]at h1;simp[h1]
 ·intro h k hk;obtain⟨hk,q⟩:=List.mem_filter.1 hk;have h1:=h k hk;rw[q]at h1;cases q2:R k d with
  |true=>simp[(yb ht (List.mem_range.1 hk) q).2 q2]
  |false=>
   rw[q2]at h1;simp at h1;simp[h1]
theorem VJ{d f:Nat}(hd:R d d=true)(hf:f∈bQ n R d):bQ n R f=bQ n R d/\R f f=true:=by
 have h12:R d f=true/\R f d=true:=by
  rcases(bL.1 hf).2 with e|q
  ·rw[e];exact⟨hd,hd⟩
  ·exact q
 refine⟨?_,ht _ _ _ h12.2 h12.1⟩;unfold bQ;refine List.filter_congr λj _=>?_
 rw[Bool.eq_iff_iff];simp only[Bool.or_eq_true,beq_iff_eq,Bool.and_eq_true];constructor
 ·rintro(rfl|⟨h1,h2⟩)
  ·exact .inr h12
  ·exact .inr ⟨ht _ _ _ h12.1 h1,ht _ _ _ h2 h12.2⟩
 ·rintro(rfl|⟨h1,h2⟩)
  ·exact .inr ⟨h12.2,h12.1⟩
  ·exact .inr ⟨ht _ _ _ h12.2 h1,ht _ _ _ h2 h12.1⟩
theorem Mp{d f:Nat}(hf:f∈fK n R d):fK n R f=fK n R d:=by
 unfold fK at hf|-;cases h:R d d with
 |true=>
  rw[if_pos h]at hf;obtain⟨q1,q2⟩:=VJ ht h hf;rw[if_pos q2,if_pos rfl,q1]
 |false=>
  rw[if_neg (by rw[h];simp),List.mem_singleton]at hf
  subst hf;rw[h]
theorem Jm{d:Nat}(hd:d<n):uk (fK n R d)∈fK n R d/\uk (fK n R d)<=d:=by
 have hm:=fQ (R:=R) hd;have hp:(fK n R d).Pairwise (·<·):=by
  unfold fK
  split
  ·exact List.Pairwise.filter _ List.pairwise_lt_range
  ·simp
 cases h:fK n R d with
 |nil=>rw[h]at hm;cases hm
 |cons a l=>
  rw[h]at hm hp;refine⟨List.mem_cons_self ..,?_⟩;rcases List.mem_cons.1 hm with q|q
  ·rw[q];exact Nat.le_refl _
  ·exact Nat.le_of_lt ((List.pairwise_cons.1 hp).1 d q)
theorem gA{g:List Nat}:g∈ji n R↔∃f,f<n/\fK n R f=g/\uk g=f:=by
 unfold ji;rw[List.mem_append];constructor
 ·rintro(h|h)
  ·simp only[dO,List.mem_map,List.mem_filter,Bool.and_eq_true,List.mem_range,beq_iff_eq]at h;obtain⟨i,⟨hi,h1,h2⟩,rfl⟩:=h;refine⟨i,hi,by rw[fK,if_pos h1],?_⟩
   unfold uk;cases q:bQ n R i with
   |nil=>rw[q]at h2;cases h2
   |cons a l=>rw[q]at h2;exact Option.some.inj h2
  ·simp only[List.mem_map,List.mem_filter,List.mem_range,Bool.not_eq_true']at h;obtain⟨d,⟨hd,h1⟩,rfl⟩:=h;exact⟨d,hd,by rw[fK,if_neg (by rw[h1];simp)],rfl⟩
 ·rintro⟨f,hf,h1,h2⟩;cases q:R f f with
  |true=>
   left;rw[fK,if_pos q]at h1;simp only[dO,List.mem_map,List.mem_filter,Bool.and_eq_true,List.mem_range,beq_iff_eq];refine⟨f,⟨hf,q,?_⟩,h1⟩;have hm:f∈bQ n R f:=bL.2 ⟨hf,.inl rfl⟩;rw[h1]at hm|-;cases g with
   |nil=>cases hm
   |cons a l=>exact congrArg some h2
  |false=>
   right;rw[fK,if_neg (by rw[q];simp)]at h1
   simp only[List.mem_map,List.mem_filter,List.mem_range,Bool.not_eq_true'];exact⟨f,⟨hf,q⟩,h1⟩
theorem yF:(ji n R).Nodup:=by
 have h1:((ji n R).map uk).Nodup:=by
  have e1:(dO n R).map uk=(List.range n).filter λi=>R i i&&(bQ n R i).head? ==some i:=by
   rw[dO,List.map_map]
   conv=>rhs;rw[<-List.map_id ((List.range n).filter λi=>R i i&&(bQ n R i).head? ==some i)]
   refine List.map_congr_left λi hi=>?_
   have:=(List.mem_filter.1 hi).2;rw[Bool.and_eq_true,beq_iff_eq]at this
   show uk (bQ n R i)=i
   unfold uk;cases q:bQ n R i with
   |nil=>rw[q]at this;cases this.2
   |cons a l=>rw[q]at this;exact Option.some.inj this.2
  have e2:(((List.range n).filter λd=>!R d d).map λd=>[d]).map uk=(List.range n).filter λd=>!R d d:=by
   rw[List.map_map]
   conv=>rhs;rw[<-List.map_id ((List.range n).filter λd=>!R d d)]
   exact List.map_congr_left λ_ _=>rfl
  rw[ji,List.map_append,e1,e2,List.nodup_append];refine⟨List.Pairwise.filter _ List.nodup_range,List.Pairwise.filter _ List.nodup_range,λa ha b hb e=>?_⟩
  have h3:=(List.mem_filter.1 ha).2;have h4:=(List.mem_filter.1 hb).2;rw[Bool.and_eq_true]at h3;rw[<-e,h3.1]at h4;cases h4
 exact vM h1
def iV(n:Nat)(R:Nat->Nat->Bool)(D:List Nat):Prop:=∀x∈D,x<n/\∀k∈fK n R x,k∈D
theorem u0{D:List Nat}(hD:iV n R D){d:Nat}(hd:d<n):iV n R (cR D (fK n R d)):=λx hx=>by
 rcases cC.1 hx with q|q
 ·exact⟨(hD x q).1,λk hk=>cC.2 (.inl ((hD x q).2 k hk))⟩
 ·exact⟨xg hd q,λk hk=>cC.2 (.inr (by rw[Mp ht q]at hk;exact hk))⟩
theorem EP{D:List Nat}(hD:iV n R D){d:Nat}(hf:(List.range n).find? (fC n R D)=some d):sH (rG n R D) (ji n R)=some (fK n R d)/\d<n/\uk (fK n R d)=d/\d∉D:=by
 have hd:d<n:=List.mem_range.1 (List.mem_of_find?_eq_some hf);have hr:=List.find?_some hf;have hmin:∀k,k<d->fC n R D k=false:=λk hk=>by
  cases q:fC n R D k with
  |false=>rfl
  |true=>
   obtain⟨_,xs,ys,e,hno⟩:=List.find?_eq_some_iff_append.1 hf;have hkr:k∈List.range n:=List.mem_range.2 (by omega)
   have hp:(List.range n).Pairwise (·<·):=List.pairwise_lt_range
   rw[e]at hkr hp;rcases List.mem_append.1 hkr with w|w
   ·have:=hno k w;rw[q]at this;cases this
   ·rcases List.mem_cons.1 w with w|w
    ·omega
    ·have:=(List.pairwise_cons.1 (List.pairwise_append.1 hp).2.1).1 k w;omega
 have CH:d∉D:=by
  unfold fC at hr;rw[Bool.and_eq_true]at hr;simpa using hr.1
 obtain⟨h1,h2⟩:=Jm ht hd;have Eg:uk (fK n R d)=d:=by
  refine Classical.byContradiction λhne=>?_
  obtain⟨f,hfe⟩:∃f,uk (fK n R d)=f:=⟨_,rfl⟩;rw[hfe]at h1 h2 hne;have hlt:f<d:=by omega
  have NN:=hmin f hlt;rw[uB ht]at NN hr;have hRd:R d d=true:=by
   unfold fK at h1
   split at h1
   ·rename_i q;exact q
   ·rw[List.mem_singleton]at h1;exact absurd h1 hne
  rw[fK,if_pos hRd]at h1;have F8:R d f=true/\R f d=true:=(bL.1 h1).2.resolve_left hne;have hfD:f∉D:=λq=>CH ((hD f q).2 d (by
   rw[fK,if_pos (ht _ _ _ F8.2 F8.1)];exact bL.2 ⟨hd,.inr ⟨F8.2,F8.1⟩⟩))
  have:rG n R D f=true:=by
   unfold rG at hr|-;rw[Bool.and_eq_true,List.all_eq_true]at hr|-;refine⟨by simpa using hfD,λk hk=>?_⟩
   have h3:=hr.2 k hk;cases q:R f k with
   |false=>rfl
   |true=>
    rw[ht _ _ _ F8.1 q]at h3;cases q2:R k d with
    |true=>rw[ht _ _ _ q2 F8.1];rfl
    |false=>rw[q2]at h3;simp at h3;simp[h3]
  rw[this]at NN;cases NN
 refine⟨?_,hd,Eg,CH⟩;refine(TE (by rw[Eg,<-uB ht];exact hr) (ji n R) λg hg q=>?_).2 ((gA ht).2 ⟨d,hd,rfl,Eg⟩)
 obtain⟨f,hf',e1,e2⟩:=(gA ht).1 hg;rw[e2]at q|-;rw[Eg];rw[<-uB ht]at q;rcases Nat.lt_trichotomy f d with w|w|w
 ·rw[hmin f w]at q;cases q
 ·left;rw[<-e1,w]
 ·exact .inr w
def tK(n:Nat)(R:Nat->Nat->Bool)(D:List Nat):Nat:=((ji n R).filter λg=>!D.contains (uk g)).length
theorem Kb{D:List Nat}(hD:iV n R D){d:Nat}(hd:d<n)(hh:uk (fK n R d)=d)(CH:d∉D):tK n R (cR D (fK n R d))=tK n R D-1:=by
 obtain⟨A,hA⟩:∃A,(ji n R).filter (λg=>!D.contains (uk g))=A:=⟨_,rfl⟩
 have hAn:A.Nodup:=by rw[<-hA];exact List.Pairwise.filter _ (yF ht)
 have KV:fK n R d∈A:=by
  rw[<-hA];exact List.mem_filter.2 ⟨(gA ht).2 ⟨d,hd,rfl,hh⟩,by rw[hh];simpa using CH⟩
 have e:(ji n R).filter (λg=>!(cR D (fK n R d)).contains (uk g))=A.filter (·!=fK n R d):=by
  rw[<-hA,List.filter_filter];refine List.filter_congr λg hg=>?_
  obtain⟨f,hf,e1,e2⟩:=(gA ht).1 hg;rw[Bool.eq_iff_iff];simp only[Bool.and_eq_true,Bool.not_eq_true',List.contains_eq_mem,decide_eq_false_iff_not,bne_iff_ne,ne_eq,cC,not_or,e2];rw[and_comm];refine and_congr ?_ Iff.rfl;constructor
  ·intro q w;apply q;rw[<-w];rw[<-e1];exact fQ hf
  ·intro q w;apply q;rw[<-e1,Mp ht w]
 unfold tK;rw[e,hA,<-hAn.erase_eq_filter,List.length_erase_of_mem KV]
theorem xI{D:List Nat}(hD:iV n R D):tK n R D=0↔∀d,d<n->d∈D:=by
 unfold tK;rw[List.length_eq_zero_iff,List.filter_eq_nil_iff];constructor
 ·intro h d hd;obtain⟨h1,h2⟩:=Jm ht hd;have hlt:=xg hd h1;have e:=Mp ht h1;have h3:=h (fK n R d) ((gA ht).2 ⟨_,hlt,e,rfl⟩);have h4:uk (fK n R d)∈D:=by simpa using h3
  refine(hD _ h4).2 d ?_;rw[e];exact fQ hd
 ·intro h g hg;obtain⟨f,hf,e1,e2⟩:=(gA ht).1 hg;rw[e2];simpa using h f hf
theorem Rz:∀(f2 f1:Nat) (D:List Nat),iV n R D->D.Nodup->tK n R D=f2->n-D.length<=f1->dM n R f1 D=tZ n R f2 D
 |0,f1,D,hD,hn,hc,hf=>by
  have hall:=(xI ht hD).1 hc;have hlen:n<=D.length:=by
   have:=dy (a:=List.range n) (b:=D) List.nodup_range λx hx=>hall x (List.mem_range.1 hx)
   simpa using this
  rw[tZ];cases f1 with
  |zero=>rfl
  |succ f1=>rw[dM,if_neg (by omega)]
 |f2+1,f1,D,hD,hn,hc,hf=>by
  have hlt:D.length<n:=by
   refine Classical.byContradiction λhge=>?_
   have:∀d,d<n->d∈D:=λd hd=>Classical.byContradiction λCH=>by
    have h1:=dy (a:=D++[d]) (b:=List.range n) (by
     rw[List.nodup_append];exact⟨hn,by simp,λa ha b hb q=>CH (by rw[List.mem_singleton]at hb;rw[<-hb,<-q];exact ha)⟩) λx hx=>by
     rcases List.mem_append.1 hx with q|q
     ·exact List.mem_range.2 (hD x q).1
     ·rw[List.mem_singleton.1 q];exact List.mem_range.2 hd
    simp at h1;omega
   rw[(xI ht hD).2 this]at hc;cases hc
  obtain⟨d,F8⟩:=pR ht hn (λd hd=>(hD d hd).1) hlt
  obtain⟨b1,b2,b3,b4⟩:=EP ht hD F8;cases f1 with
  |zero=>omega
  |succ f1=>
   rw[dM,if_pos hlt,F8,tZ,b1];simp only;have hlen:=qu (l:=fK n R d) (D:=D) (fQ b2) b4;rw[Rz f2 f1 _ (u0 ht hD b2) (iB hn) (by rw[Kb ht hD b2 b3 b4,hc];rfl) (by omega)]
theorem Ry:gK n R=VP n R:=by
 refine Rz ht _ n [] (λx hx=>absurd hx List.not_mem_nil) .nil ?_ (by simp)
 unfold tK;rw[List.filter_eq_self.2 λg _=>by simp]
end
end Go.Aft
end
section
set_option maxRecDepth 20000
namespace Go.Aft
open Go.Proofs.Tryz
theorem AW.YW{P:Program}{rd:RD}{x:Code}{s:S}{Q:QT}(n:Nat){e:TypeId}{g sz:Nat}{cells:List LV}{ex:Bool}(hn:s.H.obj n=some (.vec e g sz cells ex))(h:@AW P rd ⟨x⟩ {s with H:=s.H.set n (.vec e g sz (zz cells) ex)} Q):@AW P rd ⟨x⟩ s Q:=by
 refine λE a w hs=>h E a w ?_
 obtain⟨h2,G,lm,h1,hM,hx,aK,he⟩:=hs;refine⟨h2,G,lm,h1,⟨hM.qC,λb o v hv=>?_,hM.fresh,hM.C3,hM.loc,λm o ho=>?_⟩,⟨⟨hx.le,hx.nx,hx.os,hx.tape,hx.output,hx.drawn,hx.size,hx.frame,hx.own⟩,hx.nl⟩,aK,he⟩
 ·rcases hM.dF b o v hv with q|⟨m,e',sz',k,q1,q2,q3⟩
  ·exact .inl q
  ·refine .inr ⟨m,e',sz',k,q1,?_,q3⟩;rw[GH.ay,if_neg]
   ·exact q2
   ·intro q;subst q;rw[hn]at q2;cases q2
 ·rw[GH.ay]at ho
  split at ho
  ·rename_i e0;subst e0;cases ho;obtain⟨r1,r2,r3,b,C,vs,rest,r4,r5,r6,r7,r8,r9,r10,r11,r12⟩:=hM.iC _ _ hn;exact⟨r1,r2,r3,b,C,vs,rest,r4,r5,r6,r7,r8,xM _ _ r9,r10,r11,by rw[zy,List.length_map];exact r12⟩
  ·exact hM.iC m o ho
theorem ya(s t:cq)(v:LV):∀es:List (Value×LV),(∀(a:Value) (b:LV),(a,b)∈es->(KK.sc Sc.str).has a=true)->bD (.string s) (cr (.string t) v es)=if s=t then some v else bD (.string s) es
 |[],_=>by simp only[cr,bD,nL];by_cases h:s=t<;>simp[h]
 |(a,b)::es,hk=>by
  have ih:=ya s t v es λa b hab=>hk a b (by simp[hab])
  have ha:=hk a b (by simp)
  cases a with
  |string u=>
   simp only[cr,nL];by_cases h1:t=u
   ·simp only[h1,decide_true,if_true,bD,nL];by_cases h2:s=u<;>simp[h2]
   ·simp only[h1,decide_false,Bool.false_eq_true,if_false,bD,nL,ih];by_cases h2:s=u
    ·have:¬u=t:=λe=>h1 e.symm
     simp[h2,this]
    ·simp[h2]
  |_=>simp[KK.has,Sc.has]at ha
theorem DP(t:cq)(v:LV):∀es:List (Value×LV),(∀(a:Value) (b:LV),(a,b)∈es->(KK.sc Sc.str).has a=true)->∀(a:Value) (b:LV),(a,b)∈cr (.string t) v es->(KK.sc Sc.str).has a=true
 |[],_,a,b,hab=>by
  simp only[cr,List.mem_singleton,Prod.mk.injEq]at hab;rw[hab.1];rfl
 |(c,d)::es,h,a,b,hab=>by
  simp only[cr]at hab
  split at hab
  ·rcases List.mem_cons.1 hab with q|q
   ·cases q;rfl
   ·exact h a b (List.mem_cons_of_mem _ q)
  ·rcases List.mem_cons.1 hab with q|q
   ·rw[show a=c from(Prod.mk.inj q).1];exact h c d (List.mem_cons_self ..)
   ·exact DP t v es (λa b hab=>h a b (List.mem_cons_of_mem _ hab)) a b q
structure Cv(es:List (Value×LV))(names:List cq)(f:Nat->LV)(i:Nat):Prop where
 key:∀(a:Value) (b:LV),(a,b)∈es->(KK.sc Sc.str).has a=true
 get:∀j (h:j<names.length),j<i->bD (.string names[j]) es=some (f j)
theorem Cv.nil(names:List cq)(f:Nat->LV):Cv [] names f 0:=⟨λ_ _ h=>absurd h List.not_mem_nil,λj _ h=>absurd h (by omega)⟩
theorem Cv.put{es:List (Value×LV)}{names:List cq}{f:Nat->LV}{i:Nat}(h:Cv es names f i)(hi:i<names.length)(hd:∀j (hj:j<names.length),j<i->names[j]≠names[i]):Cv (cr (.string names[i]) (f i) es) names f (i+1):=by
 refine⟨DP _ _ _ h.key,λj hj hji=>?_⟩
 rw[ya _ _ _ _ h.key];by_cases e:j=i
 ·subst e;rw[if_pos rfl]
 ·rw[if_neg (hd j hj (by omega))];exact h.get j hj (by omega)
theorem Cv.all{es:List (Value×LV)}{names:List cq}{f:Nat->LV}(h:Cv es names f names.length):T0 es names f:=by
 refine⟨h.key,λname hn=>?_⟩
 have hlt:=oc names name;obtain⟨i,hi⟩:∃i:Nat,idx names name=(i:Int):=⟨(idx names name).toNat,by omega⟩
 rw[hi]at hlt|-;have Ef:i<names.length:=by omega
 have hname:names[i]=name:=by
  have h2:=hi;unfold idx at h2
  split at h2
  ·rename_i j hj;obtain⟨h1,h3,_⟩:=List.findIdx?_eq_some_iff_getElem.1 hj;have:j=i:=by omega
   subst this;simpa using h3
  ·omega
 have:=h.get i Ef Ef;rw[hname]at this;simpa using this
theorem Q1:prog.underlying 186=some (.array 2 3):=by kernel_rfl
theorem xR(w:World):(sizeOf 3).run prog w=.ok 1 w:=by
 have h:(prog.info? 3).map (·.size)=some 1:=by kernel_rfl
 obtain⟨i,h1,h2⟩:=Option.map_eq_some_iff.1 h;simp[sizeOf,typeInfo,h1,h2]
theorem isAgg3(w:World):(isAgg 3).run prog w=.ok false w:=by simp[isAgg,run_underlying underlying3]
theorem AL{xs:List Value}(h:cp [.int .i64,.int .i64] xs=true):∃a b,xs=[.int .i64 a,.int .i64 b]:=by
 obtain⟨a,us,e1,h1⟩:=kq h;obtain⟨b,vs,e2,h2⟩:=kq h1;have e3:=mR h2;exact⟨a,b,by rw[e1,e2,e3]⟩
def uX(t:TypeId):Option (List Sc):=if t=186 then some [.int .i64,.int .i64]else none
theorem wk{T:TypeId}{ks:List Sc}(h:uX T=some ks):T=186/\ks=[.int .i64,.int .i64]:=by
 unfold uX at h
 split at h
 ·rename_i q;exact⟨q,(Option.some.inj h).symm⟩
 ·cases h
theorem R9(b:Bool)(d:Nat)(a:Int)(w:World):(Instr.checkKey b (d+1) 3 (.int .i64 a)).run prog w=.ok () w:=by simp[Instr.checkKey,run_underlying underlying3]
theorem R8(d:Nat)(b:Bool)(x y:Int)(w:World):(Instr.checkKey b (d+2) 186 (.agg #[.int .i64 x,.int .i64 y])).run prog w=.ok () w:=by
 rw[Instr.checkKey];simp only[Sem.run_bind,run_underlying Q1,Result.andThen_ok];have hr:List.range' 0 2=[0,1]:=rfl;simp[hr,xR,part,isAgg3,R9]
theorem eq_pair(m:Nat)(a b c d:Int)(w:World):(Op.equalIn (m+2) 186 (.agg #[.int .i64 a,.int .i64 b]) (.agg #[.int .i64 c,.int .i64 d])).run prog w=.ok (a==c&&b==d) w:=by
 rw[Op.equalIn];simp only[Sem.run_bind,run_underlying Q1,Result.andThen_ok];have hr:List.range' 0 2=[0,1]:=rfl;have he:=λ(u v:Int) (w:World)=>run_equalIn_int (P:=prog) w m 3 .i64 .i64 u v underlying3
 simp[hr,xR,part,isAgg3,he];by_cases h1:a=c<;>by_cases h2:b=d<;>simp[h1,h2]
theorem ML:wI prog uX:=by
 intro T ks h xs w b h1;obtain⟨rfl,rfl⟩:=wk h;obtain⟨x,y,rfl⟩:=AL h1;exact R8 9998 b x y w
theorem P5:zf prog uX:=by
 intro T ks h xs ys w h1 h2;obtain⟨rfl,rfl⟩:=wk h;obtain⟨a,b,rfl⟩:=AL h1;obtain⟨c,d,rfl⟩:=AL h2;have gd:∀x y,(eqGuard .eql 186 x y (.agg [Value.int .i64 a,Value.int .i64 b].toArray) (.agg [Value.int .i64 c,Value.int .i64 d].toArray)).run prog w=.ok () w/\(eqGuard .neq 186 x y (.agg [Value.int .i64 a,Value.int .i64 b].toArray) (.agg [Value.int .i64 c,Value.int .i64 d].toArray)).run prog w=.ok () w:=λx y=>⟨run_eqGuard_agg w _ _ x y _ _ (by kernel_rfl),run_eqGuard_agg w _ _ x y _ _ (by kernel_rfl)⟩
 refine⟨?_,gd⟩;rw[show((10000:Nat))=9998+2 from rfl]
 refine(eq_pair 9998 a b c d w).trans ?_;simp[allEq,vC]
def cxA(bO:Nat->Kd):Cx:=⟨bW bl,uX,bO,λ_ _=>none,RD.any⟩
@[simp] theorem al2:uX 186=some [.int .i64,.int .i64]:=rfl
@[simp] theorem bs6 {p:Nat->Kd}:(cxA p).ty=bW bl:=rfl
@[simp] theorem aT2 {p:Nat->Kd} (t:TypeId):(cxA p).bR t=uX t:=rfl
@[simp] theorem aT1 {p:Nat->Kd} (t:Nat):(cxA p).bO t=p t:=rfl
@[simp] theorem aG4 {p:Nat->Kd} (f:FuncId) (a:List LV):(cxA p).spec f a=none:=rfl
@[simp] theorem bs7 {p:Nat->Kd}:(cxA p).rd=RD.any:=rfl
theorem Tp{p:Nat->Kd}:(cxA p).ok prog:=⟨vt,P5,ML,λf args pre v h=>(by cases h),(by kernel_rfl)⟩
end Go.Aft
end
section
set_option maxRecDepth 20000
namespace Go.Aft
theorem Ii(x:Item):∀l:List Item,(wS x l).length<=l.length+1
 |[]=>by simp[wS]
 |y::l=>by
  have:=Ii x l;rw[wS]
  split
  ·simp
  ·split<;>simp<;>omega
theorem Dr:∀l:List Item,(tS l).length<=l.length
 |[]=>by simp[tS]
 |x::l=>by
  have h1:=Ii x (tS l);have h2:=Dr l;rw[tS,List.length_cons];omega
theorem Kq(l:List Item):(nw l).length<=l.length:=Nat.le_trans (List.length_filter_le _ _) (Dr l)
theorem Hz(l:List Item)(t:Int):(b6 l t).length<=l.length:=Nat.le_trans (Kq _) (List.length_filter_le _ _)
theorem EG{r:Rec}:∀{l:List Item},(∀x∈l,x.n=1)->0<=bS l r/\bS l r<=l.length
 |[],_=>⟨Int.le_refl _,Int.le_refl _⟩
 |x::l,h=>by
  have ih:=EG (r:=r) (l:=l) λy hy=>h y (by simp[hy])
  have hx:=h x (by simp)
  rw[bS,List.length_cons]
  split<;>omega
theorem Dw{l:List Event}{src:Int}{x:Item}(h:x∈fN l src):∃e∈l,e.src=src/\x=⟨e.aa,1⟩:=by
 unfold fN at h;obtain⟨e,he,rfl⟩:=List.mem_map.1 h;exact⟨e,(List.mem_filter.1 he).1,of_decide_eq_true (List.mem_filter.1 he).2,rfl⟩
theorem sY{l:List Event}(hl:l.length<=60)(hi:∀e∈l,nB ⟨e.aa,1⟩)(src:Int):bB (lN l src):=by
 have hlen:=oC l src;have h1:∀x∈fN l src,x.n=1/\nB x:=λx hx=>by
  obtain⟨e,he,_,rfl⟩:=Dw hx;exact⟨rfl,hi e he⟩
 refine TF (Int.le_refl _) (λx hx=>(h1 x hx).2.b) ?_
 simp only[gZ,Bool.and_eq_true,decide_eq_true_eq,List.all_eq_true];refine⟨?_,λx hx=>?_⟩
 ·have:=Hz (fN l src) 200;omega
 ·have h2:=(jJ.1 hx).2;have h3:=EG (r:=x.aa) (l:=(fN l src).filter λx=>decide (0<=x.aa.at_/\x.aa.at_<=200)) λy hy=>(h1 y (List.mem_filter.1 hy).1).1
  have h4:=List.length_filter_le (λx:Item=>decide (0<=x.aa.at_/\x.aa.at_<=200)) (fN l src)
  omega
end Go.Aft
end
