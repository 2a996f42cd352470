import Derived.Test.YthinedikejlgmaaGreatA31
set_option linter.all false
set_option maxRecDepth 20000
namespace Go.Aft
def j8(t:Int)(u v:List cg):Prop:=u.length=v.length/\∀k,bA t (bq u k)=bA t (bq v k)
def Nb(e:bz):Prop:=∀x∈bc e,1<=x.op/\sP x.op x.n/\(x.op=3->0<=x.n)
theorem Gm{t s:Int}(h:s<=t){a b:List Item}(k:bA t a=bA t b):bA s a=bA s b:=by
 rw[<-iT h,k,iT h]
theorem JW{p:Prog}{t T:Int}{S S' u v:List cg}(hS:j8 t S S')(hu:j8 t u v){e:bz}(he:Nb e){b b':cg}(h:cZ p ⟨S,u⟩ T e=some b)(h':cZ p ⟨S',v⟩ T e=some b'):bA t b=bA t b':=by
 obtain⟨s,hs,hst⟩:∃s,s<=T/\s<=t/\(t<=T->s=t)/\(T<=t->s=T):=by
  by_cases q:t<=T
  ·exact⟨t,q,Int.le_refl _,λ_=>rfl,λk=>by omega⟩
  ·exact⟨T,Int.le_refl _,by omega,λk=>absurd k q,λ_=>rfl⟩
 obtain⟨h1,h2,h3⟩:=hst;have a1:=(iM (W':=⟨S,u⟩) hs e (λx hx=>⟨(he x hx).1,(he x hx).2.1,⟨λ_=>rfl,λ_=>rfl,λ_=>rfl⟩⟩) b h).1
 have a2:=(iM (W':=⟨S,u⟩) hs e (λx hx=>⟨(he x hx).1,(he x hx).2.1,⟨λ_=>(Gm h1 (hS.2 _)).symm,λ_=>(Gm h1 (hu.2 _)).symm,λq=>(Gm (by have:=(he x hx).2.2 q;omega) (hu.2 _)).symm⟩⟩) b' h').1
 have a3:bA s b=bA s b':=by rw[a1]at a2;exact Option.some.inj a2
 by_cases q:t<=T
 ·rw[<-h2 q];exact a3
 ·have hsT:=h3 (by omega)
  have e1:=tv (λx hx=>⟨(he x hx).1,(he x hx).2.1⟩) h
  have e2:=tv (λx hx=>⟨(he x hx).1,(he x hx).2.1⟩) h'
  rw[hsT,e1.1,e2.1]at a3;rw[a3]
theorem Fi{p:Prog}{t T:Int}{S S' u v D D':List cg}(hp:∀d,d<p.ai.length->Nb (cQ p d))(hS:j8 t S S')(hu:j8 t u v){d:Nat}(hdn:d<p.ai.length)(h:tT p S T u d=some D)(h':tT p S' T v d=some D'):j8 t D D':=by
 rw[tT]at h h'
 split at h
 ·cases h
 rename_i b hb
 split at h'
 ·cases h'
 rename_i b' hb';cases h;cases h';refine⟨by simp[hu.1],λk=>?_⟩
 by_cases hd:d<u.length
 ·rw[ff hd,ff (hu.1▸hd)]
  split
  ·exact JW hS hu (hp d hdn) hb hb'
  ·exact hu.2 k
 ·rw[List.set_eq_of_length_le (by omega),List.set_eq_of_length_le (by have:=hu.1;omega)]
  exact hu.2 k
theorem vH{p:Prog}{t T:Int}{S S':List cg}(hp:∀d,d<p.ai.length->Nb (cQ p d))(hS:j8 t S S'):∀(g:List Nat) (hg:∀d∈g,d<p.ai.length) {u v D D':List cg},j8 t u v->fq p S T g u=some D->fq p S' T g v=some D'->j8 t D D'
 |[],_,u,v,D,D',hu,h,h'=>by rw[fq]at h h';cases h;cases h';exact hu
 |d::g,hg,u,v,D,D',hu,h,h'=>by
  rw[fq]at h h'
  split at h
  ·cases h
  rename_i b hb
  split at h'
  ·cases h'
  rename_i b' hb';exact vH hp hS g (λk hk=>hg k (by simp[hk])) (Fi hp hS hu (hg d (by simp)) hb hb') h h'
theorem vw{p:Prog}{t far:Int}{S S':List cg}(hp:∀d,d<p.ai.length->Nb (cQ p d))(hS:j8 t S S')(g:List Nat)(hg:∀d∈g,d<p.ai.length):∀(f:Nat) (T:Int) {u v D D':List cg},j8 t u v->fV p S far g f T u=some D->fV p S' far g f T v=some D'->j8 t D D'
 |0,T,u,v,D,D',hu,h,h'=>by rw[fV]at h h';cases h;cases h';exact hu
 |f+1,T,u,v,D,D',hu,h,h'=>by
  rw[fV]at h h'
  split at h
  ·cases h
  rename_i b hb
  split at h'
  ·cases h'
  rename_i b' hb';have q:=vH hp hS g hg hu hb hb';by_cases hT:T=200
  ·rw[if_pos hT]at h h';cases h;cases h';exact q
  ·rw[if_neg hT]at h h';exact vw hp hS g hg f _ q h h'
theorem sq{p:Prog}{t:Int}{S S':List cg}(hp:∀d,d<p.ai.length->Nb (cQ p d))(hS:j8 t S S'):∀(gs:List (List Nat)) (hg:∀g∈gs,∀d∈g,d<p.ai.length) {u v D D':List cg},j8 t u v->dX p S gs u=some D->dX p S' gs v=some D'->j8 t D D'
 |[],_,u,v,D,D',hu,h,h'=>by rw[dX]at h h';cases h;cases h';exact hu
 |g::gs,hg,u,v,D,D',hu,h,h'=>by
  rw[dX]at h h'
  split at h
  ·cases h
  rename_i b hb
  split at h'
  ·cases h'
  rename_i b' hb';exact sq hp hS gs (λk hk=>hg k (by simp[hk])) (vw hp hS g (hg g (by simp)) _ _ hu hb hb') h h'
theorem sO.mono{s t:Int}(h:s<=t){a b:List Item}(k:sO t a b):sO s a b:=λr hr=>k r (by omega)
theorem sO.MM{t T:Int}{a b:List Item}(h:sO t a b):bA t (b6 a T)=bA t (b6 b T):=by
 by_cases q:t<=T
 ·rw[rj _ q,rj _ q,h.summed]
 ·rw[(h.mono (s:=T) (by omega)).summed]
theorem OW{p:Prog}{t:Int}{l l':List Event}(h:l.filter (λe=>decide (e.aa.at_<=t))=l'.filter (λe=>decide (e.aa.at_<=t))):j8 t (fH p l) (fH p l'):=by
 refine⟨by simp[fH],λk=>?_⟩
 have key:∀i:Nat,bA t (lN l i)=bA t (lN l' i):=λi=>by
  have hc:∀L:List Event,bA t (fN L i)=fN (L.filter λe=>decide (e.aa.at_<=t)) i:=λL=>by
   unfold bA fN;rw[List.filter_map,List.filter_filter,List.filter_filter]
   congr 1
   refine List.filter_congr λe _=>?_
   simp[Bool.and_comm]
  exact sO.MM (.mK (by rw[hc,hc,h]))
 unfold bq fH;rw[List.getD_eq_getElem?_getD,List.getD_eq_getElem?_getD,List.getElem?_map,List.getElem?_map];cases(List.range p.az.length)[k]? with
 |none=>rfl
 |some i=>exact key i
theorem uf{p:Prog}{t:Int}(hp:∀d,d<p.ai.length->Nb (cQ p d)){l l':List Event}(h:l.filter (λe=>decide (e.aa.at_<=t))=l'.filter (λe=>decide (e.aa.at_<=t))){D D':List cg}(h1:dw p l=some D)(h2:dw p l'=some D'):j8 t D D':=
 sq hp (OW h) _ (λg hg=>λd hd=>((jj (p:=p) p.ai.length [] (λx hx=>absurd hx List.not_mem_nil)).1 g hg).1.lt hd) ⟨rfl,λ_=>rfl⟩ h1 h2
theorem Og{p:Prog}(hp:formed p)(hl:(p.ai.any λd=>(bc d.exp).any bJ)=false):∀d,d<p.ai.length->Nb (cQ p d):=λd hd x hx=>by
 rw[fS hd]at hx;have hb:=(gq hp hd x hx).W4;have h1:bJ x=false:=by
  refine Classical.byContradiction λq=>?_
  have h2:(p.ai.any λd=>(bc d.exp).any bJ)=true:=List.any_eq_true.2 ⟨p.ai[d],List.getElem_mem hd,List.any_eq_true.2 ⟨x,hx,by simpa using q⟩⟩
  rw[hl]at h2;cases h2
 simp only[bJ,decide_eq_false_iff_not]at h1;refine⟨hb.1,⟨λq=>h1 (.inl q),λq=>?_,hb.2.2.2.1,λq=>by have:=hb.2.2.2.2.1 q;omega⟩,λq=>by have:=(hb.2.2.1 q).1;omega⟩
 refine Classical.byContradiction λhn=>h1 (.inr ⟨q,by omega⟩)
end Go.Aft
