import Derived.Test.YthinedikejlgmaaGreatA31
set_option linter.all false
set_option maxRecDepth 20000
namespace Go.Aft
def ah6(p:Prog)(W W':bZ)(x:bz):Prop:=(x.op=1->W.az.getD (idx p.az x.name).toNat []=W'.az.getD (idx p.az x.name).toNat [])/\(x.op=2\/ x.op=3->bq W.ai (idx (an p) x.name).toNat=bq W'.ai (idx (an p) x.name).toNat)
theorem M5{p:Prog}{W W':bZ}{op:Int}{name:cq}{n f:Int}{cs:List bh}{kids:List bz}(h:ah6 p W W' (.mk op name n f cs kids))(ks:List cg):gu p W op name n f cs ks=gu p W' op name n f cs ks:=by
 unfold gu;simp only;by_cases h1:op=1
 ·rw[if_pos h1,if_pos h1];exact h.1 h1
 by_cases h2:op=2
 ·rw[if_neg h1,if_neg h1,if_pos h2,if_pos h2];exact h.2 (.inl h2)
 by_cases h3:op=3
 ·rw[if_neg h1,if_neg h1,if_neg h2,if_neg h2,if_pos h3,if_pos h3];exact congrArg _ (h.2 (.inr h3))
 ·simp only[if_neg h1,if_neg h2,if_neg h3]
mutual
theorem BU{p:Prog}{W W':bZ}{T:Int}:∀e:bz,(∀x∈bc e,ah6 p W W' x)->cZ p W T e=cZ p W' T e
 |.mk op name n f cs kids,h=>by
  rw[cZ,cZ,yI kids λx hx=>h x (by rw[bc];exact List.mem_cons_of_mem _ hx)]
  cases eC p W' T kids with
  |none=>rfl
  |some ks=>simp only[M5 (h (.mk op name n f cs kids) (by rw[bc];exact List.mem_cons_self ..)) ks]
theorem yI{p:Prog}{W W':bZ}{T:Int}:∀es:List bz,(∀x∈bn es,ah6 p W W' x)->eC p W T es=eC p W' T es
 |[],_=>by rw[eC,eC]
 |e::es,h=>by
  rw[eC,eC,BU e λx hx=>h x (by rw[bn];exact List.mem_append_left _ hx),yI es λx hx=>h x (by rw[bn];exact List.mem_append_right _ hx)]
end
theorem ES{u v:List cg}(hl:u.length=v.length)(h:∀k,bq u k=bq v k):u=v:=by
 refine List.ext_getElem hl λi h1 h2=>?_
 have:=h i;unfold bq at this;rw[List.getD_eq_getElem?_getD,List.getD_eq_getElem?_getD,List.getElem?_eq_getElem h1,List.getElem?_eq_getElem h2]at this;exact this
theorem iu{u:List cg}{k:Nat}(h:u.length<=k):bq u k=[]:=by
 unfold bq;rw[List.getD_eq_getElem?_getD,List.getElem?_eq_none h];rfl
section
variable {p:Prog} (hp:formed p)
include hp
theorem sV{az u v:List cg}{T:Int}{d:Nat}(hd:d<p.ai.length)(h:∀k,aZ p d k=true->bq u k=bq v k):cZ p ⟨az,u⟩ T (cQ p d)=cZ p ⟨az,v⟩ T (cQ p d):=
 BU _ λx hx=>⟨λ_=>rfl,λho=>by
  rw[fS hd]at hx;exact h _ (Yw hd hx ho ((gq hp hd x hx).node.df ho))⟩
theorem Er{az ai D:List cg}{g:List Nat}(hg:qK p g)(hl:ai.length=p.ai.length)(h0:∀d∈g,bq ai d=[]):mS p az g ai=some D↔Co p az g 200 D/\Out g D ai:=by
 have hlt:=λk=>hg.lt (k:=k)
 obtain⟨d,hd,e⟩:=hg;cases hr:aZ p d d with
 |true=>
  have e2:g=bQ p.ai.length (aZ p) d:=by rw[e,fK,if_pos hr]
  have Db:=HK hp hd hr;rw[<-e2]at Db;have hpos:=Db.pos;have hm:gW (tJ p g-1) 200=if 200<tJ p g-1 then 200 else tJ p g-1:=rfl
  unfold mS;exact qX Db 202 (-1) _ ai D (λk hk=>by rw[hl];exact hlt k hk) (by rw[hm];split<;>omega) (by rw[hm];split<;>omega) (by rw[hm];split<;>omega) (by rw[hm];split<;>omega) (Fj h0)
 |false=>
  have e2:g=[d]:=by rw[e,fK,if_neg (by rw[hr];simp)]
  subst e2;have hne:∀k,aZ p d k=true->k≠d:=λk hk q=>by rw[q,hr]at hk;cases hk
  have hk:mS p az [d] ai=(match cZ p ⟨az,ai⟩ 200 (cQ p d)with
   |none=>none
   |some b=>some (ai.set d b)):=by
   unfold mS;rw[I7 hp hd hr];have hm:gW ((201:Int)-1) 200=200:=rfl;rw[hm,fV,fq,tT];cases cZ p ⟨az,ai⟩ 200 (p.ai.getD d default).exp<;>rfl
  rw[hk];have nr:d<ai.length:=by rw[hl];exact hd
  constructor
  ·intro h;cases q:cZ p ⟨az,ai⟩ 200 (cQ p d)with
   |none=>rw[q]at h;cases h
   |some b=>
    rw[q]at h;cases h;refine⟨λk hk=>?_,by simp,λk hk=>?_⟩
    ·rw[List.mem_singleton.1 hk,ff nr,if_pos rfl,<-q];exact sV hp hd λk hk=>by rw[ff nr,if_neg (hne k hk)]
    ·rw[ff nr,if_neg (by simpa using hk)]
  ·rintro⟨h1,h2,h3⟩;have:=h1 d (by simp)
   rw[sV hp hd (v:=ai) λk hk=>h3 k (by simpa using hne k hk)]at this
   rw[this];simp only[Option.some.injEq];refine ES (by rw[List.length_set,h2]) λk=>?_
   rw[ff nr]
   split
   ·rename_i q;rw[q]
   ·rename_i q;exact(h3 k (by simpa using q)).symm
theorem MG{az:List cg}:∀(f:Nat) (D0:List Nat) (ai E:List cg),iV p.ai.length (aZ p) D0->D0.Nodup->p.ai.length-D0.length<=f->ai.length=p.ai.length->
  (∀d∈D0,cZ p ⟨az,ai⟩ 200 (cQ p d)=some (bq ai d))->(∀d∈D0,∀k,aZ p d k=true->k<p.ai.length->k∈D0)->(∀d,d∉D0->bq ai d=[])->
  (dX p az (dM p.ai.length (aZ p) f D0) ai=some E↔E.length=p.ai.length/\(∀d∈D0,bq E d=bq ai d)/\∀d,d<p.ai.length->cZ p ⟨az,E⟩ 200 (cQ p d)=some (bq E d)):=by
 have ht:∀i j k,aZ p i j=true->aZ p j k=true->aZ p i k=true:=λi j k h1 h2=>fp h1 h2
 have base:∀(D0:List Nat) (ai E:List cg),iV p.ai.length (aZ p) D0->D0.Nodup->p.ai.length<=D0.length->ai.length=p.ai.length->
  (∀d∈D0,cZ p ⟨az,ai⟩ 200 (cQ p d)=some (bq ai d))->(∀d,d∉D0->bq ai d=[])->
  (some ai=some E↔E.length=p.ai.length/\(∀d∈D0,bq E d=bq ai d)/\∀d,d<p.ai.length->cZ p ⟨az,E⟩ 200 (cQ p d)=some (bq E d)):=λD0 ai E hc hn hf hl hs h0=>by
  have hall:∀d,d<p.ai.length->d∈D0:=λd hd=>Classical.byContradiction λCH=>by
   have h1:=dy (a:=D0++[d]) (b:=List.range p.ai.length) (by
    rw[List.nodup_append];exact⟨hn,by simp,λa ha b hb q=>CH (by rw[List.mem_singleton]at hb;rw[<-hb,<-q];exact ha)⟩) λx hx=>by
    rcases List.mem_append.1 hx with q|q
    ·exact List.mem_range.2 (hc x q).1
    ·rw[List.mem_singleton.1 q];exact List.mem_range.2 hd
   simp at h1;omega
  constructor
  ·intro h;cases h;exact⟨hl,λ_ _=>rfl,λd hd=>hs d (hall d hd)⟩
  ·rintro⟨h1,h2,_⟩
   congr 1
   refine ES (by rw[hl,h1]) λk=>?_
   by_cases hk:k<p.ai.length
   ·exact(h2 k (hall k hk)).symm
   ·rw[iu (by omega),iu (by omega)]
 intro f
 induction f with
 |zero=>
  intro D0 ai E hc hn hf hl hs hd h0;rw[dM,dX];exact base D0 ai E hc hn (by omega) hl hs h0
 |succ f ih=>
  intro D0 ai E hc hn hf hl hs ad7 h0;rw[dM];by_cases hlt:D0.length<p.ai.length
  ·rw[if_pos hlt];obtain⟨d,F8⟩:=pR ht hn (λd hd=>(hc d hd).1) hlt
   rw[F8];have hd:d<p.ai.length:=List.mem_range.1 (List.mem_of_find?_eq_some F8);have hrd:=List.find?_some F8;unfold fC at hrd;rw[Bool.and_eq_true]at hrd;have CH:d∉D0:=by simpa using hrd.1
   have hdk:∀k,aZ p d k=true->k<p.ai.length->k∈D0\/ k∈fK p.ai.length (aZ p) d:=λk hk hkn=>by
    have:=hrd.2;refine Classical.byContradiction λhno=>?_
    have h2:(((List.range p.ai.length).filter (aZ p d)).any λk=>!D0.contains k&& !(fK p.ai.length (aZ p) d).contains k)=true:=by
     refine List.any_eq_true.2 ⟨k,List.mem_filter.2 ⟨List.mem_range.2 hkn,hk⟩,?_⟩;simp only[Bool.and_eq_true,Bool.not_eq_true',List.contains_eq_mem,decide_eq_false_iff_not];exact⟨λq=>hno (.inl q),λq=>hno (.inr q)⟩
    rw[h2]at this;cases this
   obtain⟨g,hg⟩:∃g,fK p.ai.length (aZ p) d=g:=⟨_,rfl⟩;rw[hg]at hdk;simp only[hg];have Ws:qK p g:=⟨d,hd,hg.symm⟩;have Wu:d∈g:=by rw[<-hg];exact fQ hd
   have MB:∀k∈g,k∉D0:=λk hk PE=>CH ((hc k PE).2 d (NB hd (by rw[hg];exact hk)))
   have qR:∀j∈g,∀k,aZ p j k=true->k<p.ai.length->k∈D0\/ k∈g:=λj hj k hk hkn=>by
    rw[<-hg]at hj;unfold fK at hj
    split at hj
    ·rcases(bL.1 hj).2 with q|⟨q1,q2⟩
     ·rw[q]at hk;exact hdk k hk hkn
     ·exact hdk k (fp q1 hk) hkn
    ·rw[List.mem_singleton.1 hj]at hk;exact hdk k hk hkn
   have YR:=u0 ht hc hd;rw[hg]at YR;have hlen:=qu Wu CH;have az2:∀(u v:List cg),(∀k∈D0,bq u k=bq v k)->(∀k∈g,bq u k=bq v k)->∀j,j∈D0\/ j∈g->u.length=p.ai.length->v.length=p.ai.length->cZ p ⟨az,u⟩ 200 (cQ p j)=cZ p ⟨az,v⟩ 200 (cQ p j):=λu v h1 h2 j hj hu hv=>by
    refine sV hp (by rcases hj with q|q;exact(hc j q).1;exact Ws.lt q) λk hk=>?_
    by_cases hkn:k<p.ai.length
    ·rcases hj with q|q
     ·exact h1 k (ad7 j q k hk hkn)
     ·rcases qR j q k hk hkn with r|r
      ·exact h1 k r
      ·exact h2 k r
    ·rw[iu (by omega),iu (by omega)]
   have key:∀D1:List cg,Co p az g 200 D1->Out g D1 ai->(dX p az (dM p.ai.length (aZ p) f (cR D0 g)) D1=some E↔E.length=p.ai.length/\(∀d∈cR D0 g,bq E d=bq D1 d)/\∀d,d<p.ai.length->cZ p ⟨az,E⟩ 200 (cQ p d)=some (bq E d)):=λD1 hs1 ho=>by
    have hout:∀k∈D0,bq D1 k=bq ai k:=λk hk=>ho.2 k λq=>MB k q hk
    refine ih _ D1 E YR (iB hn) (by omega) (ho.1.trans hl) (λj hj=>?_) (λj hj k hk hkn=>?_) λj hj=>?_
    ·rcases cC.1 hj with q|q
     ·rw[hout j q,<-hs j q];refine sV hp (hc j q).1 λk hk=>?_
      by_cases hkn:k<p.ai.length
      ·exact hout k (ad7 j q k hk hkn)
      ·rw[iu (by have:=ho.1;omega),iu (by omega)]
     ·exact hs1 j q
    ·rcases cC.1 hj with q|q
     ·exact cC.2 (.inl (ad7 j q k hk hkn))
     ·exact cC.2 (qR j q k hk hkn)
    ·rw[ho.2 j λq=>hj (cC.2 (.inr q))]
     exact h0 j λq=>hj (cC.2 (.inl q))
   rw[dX];constructor
   ·intro h;cases hk:mS p az g ai with
    |none=>rw[hk]at h;cases h
    |some D1=>
     rw[hk]at h;obtain⟨hs1,ho⟩:=(Er hp Ws hl λk hk=>h0 k (MB k hk)).1 hk
     obtain⟨r1,r2,r3⟩:=(key D1 hs1 ho).1 h;exact⟨r1,λk hk=>(r2 k (cC.2 (.inl hk))).trans (ho.2 k λq=>MB k q hk),r3⟩
   ·rintro⟨r1,r2,r3⟩;obtain⟨D1,hD1⟩:∃D1,D1=(List.range p.ai.length).map λk=>if k∈g then bq E k else bq ai k:=⟨_,rfl⟩
    have qE:∀k,bq D1 k=if k∈g then bq E k else bq ai k:=λk=>by
     rw[hD1];unfold bq;rw[List.getD_eq_getElem?_getD,List.getElem?_map];by_cases h:k<p.ai.length
     ·rw[List.getElem?_range h];rfl
     ·rw[List.getElem?_eq_none (by simpa using h)]
      show[]=_
      rw[show E.getD k []=[]from iu (by omega),show ai.getD k []=[]from iu (by omega)]
      split<;>rfl
    have BA:D1.length=p.ai.length:=by rw[hD1];simp
    have ho:Out g D1 ai:=⟨BA.trans hl.symm,λk hk=>by rw[qE,if_neg hk]⟩
    have he1:∀k∈D0,bq D1 k=bq E k:=λk hk=>by rw[qE,if_neg λq=>MB k q hk,r2 k hk]
    have he2:∀k∈g,bq D1 k=bq E k:=λk hk=>by rw[qE,if_pos hk]
    have hs1:Co p az g 200 D1:=λj hj=>by
     rw[he2 j hj,az2 D1 E he1 he2 j (.inr hj) BA r1];exact r3 j (Ws.lt hj)
    rw[(Er hp Ws hl λk hk=>h0 k (MB k hk)).2 ⟨hs1,ho⟩]
    refine(key D1 hs1 ho).2 ⟨r1,λk hk=>?_,r3⟩
    rcases cC.1 hk with q|q
    ·exact(he1 k q).symm
    ·exact(he2 k q).symm
  ·rw[if_neg hlt,dX];exact base D0 ai E hc hn (by omega) hl hs h0
theorem Ps(l:List Event)(D:List cg):dw p l=some D↔D.length=p.ai.length/\∀d,d<p.ai.length->cZ p ⟨fH p l,D⟩ 200 (cQ p d)=some (bq D d):=by
 have:=MG hp (az:=fH p l) p.ai.length [] (List.replicate p.ai.length []) D (λx hx=>absurd hx List.not_mem_nil) .nil (by simp) (by simp) (λx hx=>absurd hx List.not_mem_nil) (λx hx=>absurd hx List.not_mem_nil) λd _=>by
  unfold bq;rw[List.getD_eq_getElem?_getD,List.getElem?_replicate]
  split<;>rfl
 unfold dw gK;rw[this];exact⟨λh=>⟨h.1,h.2.2⟩,λh=>⟨h.1,λd hd=>absurd hd List.not_mem_nil,h.2⟩⟩
end
end Go.Aft
