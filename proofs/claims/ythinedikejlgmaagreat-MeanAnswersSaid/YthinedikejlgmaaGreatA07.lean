import Derived.Test.YthinedikejlgmaaGreatA06
set_option linter.all false
section
namespace Go.Aft
section
variable {P:Program} {ty:TypeId->Option aS} {bP:TypeId->Option (List Sc)} {bJ:Nat->Kd} {E:sW} {s:S} {a:Act} {w:World} {o:Oper} {r:uL}
def hU(k:Value):List MapEntry->Nat->Option (Nat×Value)
 |[],_=>none
 |e::es,i=>if wv k e.key then some (i,e.val)else hU k es (i+1)
theorem Mv{k:Sc}{a b:Value}(ha:k.has a=true)(hb:k.has b=true)(h:uU a b=true):a=b:=by
 cases k<;>cases a<;>simp[Sc.has]at ha<;>cases b<;>simp[Sc.has]at hb<;>simp[uU]at h
 ·subst ha;subst hb;subst h;rfl
 ·subst h;rfl
 ·subst h;rfl
theorem JF:∀{ks:List Sc} {xs ys:List Value},b6 ks xs=true->b6 ks ys=true->allEq xs ys=true->xs=ys
 |[],[],[],_,_,_=>rfl
 |[],_::_,_,h,_,_=>by simp[b6]at h
 |[],[],_::_,_,h,_=>by simp[b6]at h
 |_::_,[],_,h,_,_=>by simp[b6]at h
 |_::_,_::_,[],_,h,_=>by simp[b6]at h
 |k::ks,x::xs,y::ys,h1,h2,h3=>by
  simp[b6]at h1 h2;simp[allEq]at h3;rw[Mv h1.1 h2.1 h3.1,JF h1.2 h2.2 h3.2]
theorem Re{kk:KK}{a b:Value}(ha:kk.has a=true)(hb:kk.has b=true)(h:wv a b=true):a=b:=by
 cases kk with
 |sc k=>
  have:∀x,a≠ .agg x:=λx e=>by subst e;cases k<;>simp[KK.has,Sc.has]at ha
  have h':uU a b=true:=by
   cases a<;>first|exact absurd rfl (this _)|exact h
  exact Mv ha hb h'
 |ag ks=>
  cases a<;>simp[KK.has]at ha;cases b<;>simp[KK.has]at hb;simp[wv]at h;rename_i x y;have:=JF ha hb h;rw[Array.toList_inj.1 this]
theorem Nq{k:Sc}{a:Value}(ha:k.has a=true)(n:Nat):Instr.sameBits n a a=true:=by
 cases k<;>cases a<;>simp[Sc.has]at ha<;>cases n<;>simp[Instr.sameBits,MapKept.bytes_beq]
theorem Jz{n:Nat}:∀{ks:List Sc} {xs:List Value},b6 ks xs=true->((xs.zip xs).all λ(p:Value×Value)=>Instr.sameBits n p.1 p.2)=true
 |[],[],_=>by simp
 |[],_::_,h=>by simp[b6]at h
 |_::_,[],h=>by simp[b6]at h
 |k::ks,x::xs,h=>by
  simp[b6]at h;simp only[List.zip_cons_cons,List.all_cons,Nq h.1,Bool.true_and];exact Jz h.2
theorem Po{kk:KK}{a:Value}(ha:kk.has a=true)(n:Nat):Instr.sameBits (n+1) a a=true:=by
 cases kk with
 |sc k=>exact Nq ha _
 |ag ks=>
  cases a<;>simp[KK.has]at ha;rename_i xs;have:=Jz (n:=n) ha;simp only[Instr.sameBits,beq_self_eq_true,Bool.true_and];exact this
theorem stays{kk:KK}{a:Value}(ha:kk.has a=true)(w:World):(Instr.keyThatStays a a).run P w=.ok a w:=by
 simp[Instr.keyThatStays,Po ha 9999]
theorem kEq_sc{k:Sc}{a b:Value}(ha:k.has a=true):wv a b=uU a b:=by
 cases k<;>cases a<;>simp[Sc.has]at ha<;>rfl
theorem Kz{k:Sc}{desc:TypeDesc}(hd:(match k,desc with|.int j,.int j'=>j'=j|.str,.string=>True|.bool,.bool=>True|_,_=>False)){a b:Value}(ha:k.has a=true)(hb:k.has b=true):Instr.sameNow desc a b=some (wv a b):=by
 rw[kEq_sc ha];cases k<;>cases desc<;>simp at hd<;>cases a<;>simp[Sc.has]at ha<;>cases b<;>simp[Sc.has]at hb<;>simp[Instr.sameNow,uU,ha,hb];rw[Bool.eq_iff_iff];simp[MapKept.bytes_beq]
theorem Be{k:Sc}{desc:TypeDesc}(hd:(match k,desc with|.int j,.int j'=>j'=j|.str,.string=>True|.bool,.bool=>True|_,_=>False)){a:Value}(ha:k.has a=true):∀(es:List MapEntry) (i:Nat),(∀e∈es,k.has e.key=true)->Instr.findNow desc a es i=some (hU a es i)
 |[],i,_=>rfl
 |e::es,i,h=>by
  have h1:=Kz hd ha (h e (List.mem_cons_self ..));simp only[Instr.findNow,h1,hU];cases hk:wv a e.key
  ·simp only[Bool.false_eq_true,if_false];exact Be hd ha es (i+1) λx hx=>h x (List.mem_cons_of_mem _ hx)
  ·simp
theorem tE{bP:TypeId->Option (List Sc)}(heq:yD P bP){kt:TypeId}{ks:List Sc}(hk:bP kt=some ks){xs:Array Value}(ha:b6 ks xs.toList=true)(w:World):∀(es:List MapEntry) (i:Nat),(∀e∈es,(KK.ag ks).has e.key=true)->
  (Instr.findAsking kt (.agg xs) es i).run P w=.ok (hU (.agg xs) es i) w
 |[],i,_=>by simp[Instr.findAsking,hU]
 |e::es,i,h=>by
  have h1:=h e (List.mem_cons_self ..);have ih:=tE heq hk ha w es (i+1) λx hx=>h x (List.mem_cons_of_mem _ hx)
  cases hek:e.key<;>rw[hek]at h1<;>simp[KK.has]at h1;rename_i ys;have hq:=(heq kt ks hk xs.toList ys.toList w ha h1).1;simp only[Array.toArray_toList]at hq;have hq':(Op.equal kt (.agg xs) (.agg ys)).run P w=.ok (allEq xs.toList ys.toList) w:=hq;simp only[Instr.findAsking,hU,hek,wv];simp only[Sem.run_bind,hq',Result.andThen_ok];cases allEq xs.toList ys.toList
  ·simp only[Bool.false_eq_true,if_false];exact ih
  ·simp
theorem nu(cU:mT P ty)(heq:yD P bP)(LH:vJ P bP){kt:TypeId}{kk:KK}(hkk:gf ty bP kt=some kk){key:Value}(hk:kk.has key=true)(es:List MapEntry)(tC:∀e∈es,kk.has e.key=true)(w:World):
  (Instr.findKey kt key es).run P w=.ok (hU key es 0) w/\∀b,(Instr.checkKey b 10000 kt key).run P w=.ok () w:=by
 unfold gf at hkk;have sc:∀(k:Sc) (desc:TypeDesc),kk=.sc k->P.underlying kt=some desc->(match k,desc with|.int j,.int j'=>j'=j|.str,.string=>True|.bool,.bool=>True|_,_=>False)->
   (Instr.findKey kt key es).run P w=.ok (hU key es 0) w/\∀b,(Instr.checkKey b 10000 kt key).run P w=.ok () w:=by
  intro k desc e1 e2 e3;subst e1;have hf:=Be e3 hk es 0 tC;refine⟨by simp[Instr.findKey,run_underlying e2,hf],λb=>?_⟩
  have hid:MapKept.IsKey desc key:=by
   cases k<;>cases desc<;>simp at e3<;>cases key<;>simp[KK.has,Sc.has]at hk<;>simp[MapKept.IsKey,hk,e3]
  exact MapKept.run_checkKey e2 hid b 9999
 cases hT:ty kt with
 |none=>rw[hT]at hkk;cases hkk
 |some d=>
  obtain⟨desc,h1,h2⟩:=(cU kt d hT).u;obtain⟨k,sz,zero,bt⟩:=d;rw[hT]at hkk;have ag:(bP kt).map KK.ag=some kk->(match desc with|.struct _|.array ..=>True|_=>False)->(Instr.findKey kt key es).run P w=.ok (hU key es 0) w/\∀b,(Instr.checkKey b 10000 kt key).run P w=.ok () w:=by
   intro hm hds;simp only[Option.map_eq_some_iff]at hm;obtain⟨ks,hks,rfl⟩:=hm;cases hkey:key<;>rw[hkey]at hk<;>simp[KK.has]at hk;rename_i xs;have hfa:=tE heq hks hk w es 0 tC;refine⟨?_,λb=>by have:=LH kt ks hks xs.toList w b hk;simpa using this⟩
   simp only[Instr.findKey,Sem.run_bind,run_underlying h1,Result.andThen_ok];cases es with
   |nil=>simp[Instr.findNow,hU]
   |cons e es=>
    have yR:=tC e (List.mem_cons_self ..);have dz:Instr.sameNow desc (.agg xs) e.key=none:=by cases desc<;>simp at hds<;>simp[Instr.sameNow]
    simp only[Instr.findNow,dz];exact hfa
  cases k<;>simp only[reduceCtorEq,Option.some.injEq]at hkk
  ·rename_i fs;refine ag hkk ?_;cases desc<;>simp[TK.ok]at h2|-
  ·refine ag hkk ?_;cases desc<;>simp[TK.ok]at h2|-
  ·cases desc<;>simp only[TK.ok]at h2;exact sc .str _ hkk.symm h1 trivial
  ·cases desc<;>simp only[TK.ok]at h2;exact sc (.int _) _ hkk.symm h1 h2
  ·cases desc<;>simp only[TK.ok]at h2;exact sc .bool _ hkk.symm h1 trivial
theorem yW{G:Gh}{nx:Nat}{k:Value}:∀(es:List (Value×LV)) (xs:List MapEntry) (i:Nat),xs.map (·.key)=es.map (·.1)->bE G nx gP (es.map (·.2)) (xs.map (·.val))->
  (bz k es=none/\hU k xs i=none)\/ ∃j e v,bz k es=some v/\hU k xs i=some (i+j,e.val)/\xs[j]?=some e/\wv k e.key=true/\LR G nx gP v e.val
 |[],xs,i,h1,h2=>by
  have:xs=[]:=by cases xs;rfl;simp at h1
  subst this;exact .inl ⟨rfl,rfl⟩
 |e::es,xs,i,h1,h2=>by
  cases xs with
  |nil=>simp at h1
  |cons x xs=>
   simp at h1;simp only[List.map_cons]at h2;unfold bE at h2;obtain⟨v,r,e1,h3,h4⟩:=h2;simp at e1;obtain⟨rfl,rfl⟩:=e1;simp only[bz,hU,h1.1];cases hk:wv k e.1
   ·simp only[Bool.false_eq_true,if_false];rcases yW (k:=k) es xs (i+1) h1.2 h4 with⟨q1,q2⟩|⟨j,e',v,q1,q2,q3,q4,q5⟩
    ·exact .inl ⟨q1,q2⟩
    ·exact .inr ⟨j+1,e',v,q1,by rw[q2];congr 2;omega,by simpa using q3,q4,q5⟩
   ·simp only[if_true];exact .inr ⟨0,x,e.2,rfl,by simp,rfl,by rw[h1.1];exact hk,h3⟩
theorem rp{kk:KK}{es:List (Value×LV)}{xs:List MapEntry}(h:xs.map (·.key)=es.map (·.1))(ha:es.all (λe=>kk.has e.1)=true):∀e∈xs,kk.has e.key=true:=by
 intro e he;have:e.key∈es.map (·.1):=by rw[<-h];exact List.mem_map.2 ⟨e,he,rfl⟩
 obtain⟨p,hp,hpe⟩:=List.mem_map.1 this;rw[<-hpe];exact List.all_eq_true.1 ha p hp
theorem E4{G:Gh}{nx:Nat}{lm:Nat->Option Nat}{x:LV}{v k:Value}(h:LR G nx lm x v)(hk:keyOf x=some k):v=k:=by
 unfold keyOf at hk
 split at hk
 ·cases hk;unfold LR DR at h;exact h.1
 ·simp only[Option.map_eq_some_iff]at hk;obtain⟨vs,h1,rfl⟩:=hk;unfold LR at h;obtain⟨us,rfl,h2⟩:=h;rw[mK h1 h2]
 ·cases hk
theorem lW{e:TypeId}{ed:aS}(gu:ed.ok P e){z:LV}(hz:kS ed=some z)(w:World):∃zv,(zeroValue e).run P w=.ok zv w/\∀G nx lm,LR G nx lm z zv:=by
 obtain⟨i,zv,h1,h2,h3,h4,_⟩:=gu.i;refine⟨zv,by simp[zeroValue,typeInfo,h1,h3],λG nx lm=>?_⟩
 unfold kS dh at hz;by_cases ha:ed.k.isAgg=true
 ·rw[if_pos ha]at hz
  split at hz
  ·cases hz;have lH:=gu.ag zv (by rw[h1];simp[h3])
   rw[if_pos ha]at lH;obtain⟨cs,rfl⟩:=lH;have hl:(ed.zero.map kz).take ed.sz=ed.zero.map kz:=List.take_of_length_le (by simp[gu.len])
   rw[hl];unfold LR;exact⟨ed.zero,by rw[<-h4];simp[Value.cells],wu gu.one⟩
  ·cases hz
 ·rw[if_neg ha]at hz;cases hzz:ed.zero with
  |nil=>rw[hzz]at hz;simp at hz
  |cons u us=>
   rw[hzz]at hz;simp at hz;subst hz;have hu:u.oneCell'=true:=gu.one u (by rw[hzz];exact List.mem_cons_self ..)
   have lH:=gu.ag zv (by rw[h1];simp[h3])
   rw[if_neg ha]at lH;have:zv=u:=by
    rw[hzz,C0 lH]at h4;simp at h4;exact h4.1
   rw[this];exact xM hu
theorem ni{G:Gh}{lm:Nat->Option Nat}{L:Nat->Option (List LV)}{H:GH}(hM:MR G lm L H w){n:Nat}{es:List (Value×LV)}(hn:H.obj n=some (.map es)):
  n<H.next/\G.own (G.nm n)=.nm n/\∃xs clock,w.heap[G.nm n]?=some (.map xs.toArray clock)/\JY G H.next es xs clock:=by
 obtain⟨h1,h2,xs,c,h3,h4⟩:=hM.gX n _ hn;exact⟨h1,h2,xs,c,h3,h4⟩
theorem Of(cU:mT P ty)(heq:yD P bP)(LH:vJ P bP){T kt et:TypeId}{d ed:aS}{m k:Operand}{ok:Bool}{kk:KK}{z:LV}{key:Value}{n:Nat}{es:List (Value×LV)}(ho:o.op=.lookup T m k ok)(hok:d.ok P T)(hk:d.k=.map kt et)(hkk:gf ty bP kt=some kk)
  (gu:ed.ok P et) (hz:kS ed=some z) (hkey:keyOf (s.arg k)=some key) (hm:s.arg m=.gm n) (hn:s.H.obj n=some (.map es)) (hp:s.aI m) (hq:s.aI k) (h1:kk.has key=true) (h2:es.all (λe=>kk.has e.1)=true)
  (hs:cz E s a w) (aM:∀t,o.dst=some t->t<s.nt) (pre:Prop):bR P E s o a w ⟨pre,if ok then .dx [(bz key es).getD z,.d (.k (.bool (bz key es).isSome))]else(bz key es).getD z,.no⟩:=
 bR.pure hs aM λG lm hM aK=>by
  have Cs:=aV aK m hp;rw[hm]at Cs;unfold LR at Cs;have hkv:=E4 (aV aK k hq) hkey;obtain⟨desc,g1,g2⟩:=hok.u;rw[hk]at g2;cases desc<;>simp only[TK.ok]at g2;obtain⟨rfl,rfl⟩:=g2;obtain⟨_,hown,xs,c,hb,hR⟩:=ni hM hn;obtain⟨hf,ON⟩:=nu cU heq LH hkk h1 xs (rp hR.1 h2) w;obtain⟨zv,sP,qh⟩:=lW gu hz w;have dD:(getObj (G.nm n)).run P w=.ok (.map xs.toArray c) w:=MapKept.run_getObj_map hb;have hres:∃v',LR G s.H.next lm ((bz key es).getD z) v'/\(execOp a.eval o).run P w=.ok (.value (if ok then .tuple #[v',.bool (bz key es).isSome]else v')) w:=by
   rcases yW (k:=key) es xs 0 hR.1 hR.2.1 with⟨q1,q2⟩|⟨j,e,v,q1,q2,q3,q4,q5⟩
   ·refine⟨zv,by rw[q1];exact qh _ _ _,?_⟩
    rw[q2]at hf;simp[execOp,ho,Instr.lookup,run_underlying g1,Cs.2,dD,hkv,ON,hf,sP,q1]
   ·refine⟨e.val,by rw[q1];exact bA (Nat.le_refl _) (Gh.le_refl _ _) (λ_ _ e=>by cases e) _ _ q5,?_⟩
    rw[q2]at hf;simp[execOp,ho,Instr.lookup,run_underlying g1,Cs.2,dD,hkv,ON,hf,q1]
  obtain⟨v',r1,r2⟩:=hres;refine⟨_,r2,?_⟩;cases ok
  ·exact r1
  ·simp only[if_true];unfold LR;exact⟨[v',.bool (bz key es).isSome],rfl,by unfold bE;exact⟨_,_,rfl,r1,by unfold bE;exact⟨_,_,rfl,by unfold LR DR;exact⟨rfl,rfl⟩,by simp[bE]⟩⟩⟩
theorem EL(cU:mT P ty)(heq:yD P bP)(LH:vJ P bP){T kt et:TypeId}{d ed:aS}{m k:Operand}{ok:Bool}{kk:KK}{z:LV}{key:Value}(ho:o.op=.lookup T m k ok)(hok:d.ok P T)(hk:d.k=.map kt et)(hkk:gf ty bP kt=some kk)
  (gu:ed.ok P et) (hz:kS ed=some z) (hkey:keyOf (s.arg k)=some key) (hm:s.arg m=.d (.k (.map none))) (hp:s.aI m) (hq:s.aI k) (h1:kk.has key=true)
  (hs:cz E s a w) (aM:∀t,o.dst=some t->t<s.nt) (pre:Prop):bR P E s o a w ⟨pre,if ok then .dx [z,.d (.k (.bool false))]else z,.no⟩:=
 bR.pure hs aM λG lm hM aK=>by
  have Cs:=aV aK m hp;rw[hm]at Cs;unfold LR DR at Cs;have hkv:=E4 (aV aK k hq) hkey;obtain⟨desc,g1,g2⟩:=hok.u;rw[hk]at g2;cases desc<;>simp only[TK.ok]at g2;obtain⟨rfl,rfl⟩:=g2;obtain⟨hf,ON⟩:=nu cU heq LH hkk h1 [] (by simp) w
  obtain⟨zv,sP,qh⟩:=lW gu hz w;refine⟨if ok then .tuple #[zv,.bool false]else zv,by simp[execOp,ho,Instr.lookup,run_underlying g1,Cs.1,hkv,ON,hf,sP,hU],?_⟩
  cases ok
  ·exact qh _ _ _
  ·simp only[if_true];unfold LR;exact⟨[zv,.bool false],rfl,by unfold bE;exact⟨_,_,rfl,qh _ _ _,by unfold bE;exact⟨_,_,rfl,by unfold LR DR;exact⟨rfl,rfl⟩,by simp[bE]⟩⟩⟩
theorem EK{G:Gh}{nx:Nat}{k:Value}{v:LV}{vv:Value}(hv:LR G nx gP v vv):∀(es:List (Value×LV)) (xs:List MapEntry),xs.map (·.key)=es.map (·.1)->bE G nx gP (es.map (·.2)) (xs.map (·.val))->
  (∀(born:Nat),bz k es=none->(xs++[(⟨k,vv,born⟩:MapEntry)]).map (·.key)=(cg k v es).map (·.1)/\bE G nx gP ((cg k v es).map (·.2)) ((xs++[(⟨k,vv,born⟩:MapEntry)]).map (·.val)))/\
  (∀(i j:Nat) (u:Value),hU k xs i=some (i+j,u)->(xs.modify j λe=>{e with key:=k,val:=vv}).map (·.key)=(cg k v es).map (·.1)/\bE G nx gP ((cg k v es).map (·.2)) ((xs.modify j λe=>{e with key:=k,val:=vv}).map (·.val)))
 |[],xs,h1,h2=>by
  have:xs=[]:=by cases xs;rfl;simp at h1
  subst this;refine⟨λborn _=>⟨by simp[cg],?_⟩,λi j u h=>by simp[hU]at h⟩
  simp only[cg,List.map_cons,List.map_nil,List.nil_append];unfold bE;exact⟨_,_,rfl,hv,by simp[bE]⟩
 |e::es,xs,h1,h2=>by
  cases xs with
  |nil=>simp at h1
  |cons x xs=>
   simp at h1;simp only[List.map_cons]at h2;unfold bE at h2;obtain⟨v0,r,e1,h3,h4⟩:=h2;simp at e1;obtain⟨rfl,rfl⟩:=e1;have ih:=EK (k:=k) hv es xs h1.2 h4;simp only[bz,hU,cg,h1.1];cases hk:wv k e.1
   ·simp only[Bool.false_eq_true,if_false];refine⟨λborn hn=>?_,λi j u hj=>?_⟩
    ·have:=ih.1 born hn;simp only[List.cons_append,List.map_cons];exact⟨by rw[this.1,h1.1],by unfold bE;exact⟨_,_,rfl,h3,this.2⟩⟩
    ·have hj':∃j',j=j'+1:=by
      cases j with
      |zero=>
       exfalso;have:∀(l:List MapEntry) (i:Nat) (p:Nat×Value),hU k l i=some p->i<=p.1:=by
        intro l
        induction l with
        |nil=>intro i p h;simp[hU]at h
        |cons y l ih=>
         intro i p h;simp only[hU]at h;split at h
         ·cases h;exact Nat.le_refl _
         ·have:=ih _ _ h;omega
       have:=this _ _ _ hj;simp at this;omega
      |succ j=>exact⟨j,rfl⟩
     obtain⟨j',rfl⟩:=hj';have:=ih.2 (i+1) j' u (by rw[hj];congr 2;omega)
     simp only[List.modify_succ_cons,List.map_cons];exact⟨by rw[this.1,h1.1],by unfold bE;exact⟨_,_,rfl,h3,this.2⟩⟩
   ·simp only[if_true];refine⟨(λborn hn=>by cases hn),λi j u hj=>?_⟩
    simp at hj;obtain⟨rfl,_⟩:=hj;simp only[List.modify_zero_cons,List.map_cons];exact⟨by rw[h1.2],by unfold bE;exact⟨_,_,rfl,hv,h4⟩⟩
theorem uZ(cU:mT P ty)(heq:yD P bP)(LH:vJ P bP){T kt et:TypeId}{d:aS}{m k v:Operand}{kk:KK}{key:Value}{n:Nat}{es:List (Value×LV)}(ho:o.op=.mapUpdate T m k v\/ o.op=.insert T m k v)(hok:d.ok P T)(hk:d.k=.map kt et)(hkk:gf ty bP kt=some kk)
  (hkey:keyOf (s.arg k)=some key) (hm:s.arg m=.gm n) (hn:s.H.obj n=some (.map es)) (hp:s.aI m) (hq:s.aI k) (hr:s.aI v) (h1:kk.has key=true) (h2:es.all (λe=>kk.has e.1)=true) (hnb:(s.arg v).nb s.H.next)
  (hs:cz E s a w) (aM:∀t,o.dst=some t->t<s.nt) (pre:Prop):bR P E s o a w ⟨pre,.any,.dK n (.map (cg key (s.arg v) es))⟩:=by
 obtain⟨e1,G,lm,e2,hM,hx,aK,_⟩:=hs;have Cs:=aV aK m hp;rw[hm]at Cs;unfold LR at Cs;have hkv:=E4 (aV aK k hq) hkey;have hvv:=jq _ _ (aV aK v hr) hnb;obtain⟨desc,g1,g2⟩:=hok.u;rw[hk]at g2;cases desc<;>simp only[TK.ok]at g2;obtain⟨rfl,rfl⟩:=g2;obtain⟨hlt,hown,xs,c,hb,hR⟩:=ni hM hn;obtain⟨hf,ON⟩:=nu cU heq LH hkk h1 xs (rp hR.1 h2) w;have dD:(getObj (G.nm n)).run P w=.ok (.map xs.toArray c) w:=MapKept.run_getObj_map hb;have ff:∀ob:Array MapEntry×Nat,(setObj (G.nm n) (.map ob.1 ob.2)).run P w=.ok () (eM w (G.nm n) (.map ob.1 ob.2)):=λob=>MapKept.run_setObj_map _ hb
 have hput:=EK (k:=key) hvv es xs hR.1 hR.2.1;have wG:=eA hb;have fin:∀(xs':List MapEntry) (c':Nat),(execOp a.eval o).run P w=.ok .skip (eM w (G.nm n) (.map xs'.toArray c'))->JY G s.H.next (cg key (s.arg v) es) xs' c'->bR P E s o a w ⟨pre,.any,.dK n (.map (cg key (s.arg v) es))⟩:=by
  intro xs' c' hrun hR';have yQ:=hM.dK n hn (.map (cg key (s.arg v) es)) (.map xs'.toArray c') hown (by simp) (by simp) ⟨hown,xs',c',by rw[ee,if_pos ⟨rfl,wG⟩],hR'⟩
  exact⟨.skip,undef,_,hrun,.inr ⟨rfl,rfl⟩,cz.mk' (L':=s.L) (H':=s.H.set n (.map (cg key (s.arg v) es))) e1 e2 yQ (hx.dK hM n _ _ hown) aK (by simp[LR]) aM⟩
 have hexec:∀w',(Instr.mapUpdate T (.map (some (G.nm n))) key (a.eval v)).run P w=.ok () w'->(execOp a.eval o).run P w=.ok .skip w':=λw' h=>by
  rcases ho with ho|ho<;>simp[execOp,ho,Cs.2,hkv,h]
 rcases yW (k:=key) es xs 0 hR.1 hR.2.1 with⟨q1,q2⟩|⟨j,e,v0,q1,q2,q3,q4,q5⟩
 ·rw[q2]at hf;have:=hput.1 c q1;refine fin (xs++[(⟨key,a.eval v,c⟩:MapEntry)]) (c+1) (hexec _ ?_) ⟨this.1,this.2,?_,by simp[hR.2.2.2]⟩
  ·have:=ff ((xs++[(⟨key,a.eval v,c⟩:MapEntry)]).toArray,c+1);simp only at this;simp[Instr.mapUpdate,run_underlying g1,dD,ON,hf];simpa using this
  ·simp[hR.2.2.1,hR.2.2.2,List.range_succ]
 ·rw[q2]at hf;have:=hput.2 0 j e.val q2;have hke:e.key=key:=by
   have hmem:e∈xs:=List.mem_of_getElem? q3;exact(Re h1 (rp hR.1 h2 e hmem) q4).symm
  have hst:=stays h1 w (P:=P);have LU:(xs.modify j λe=>{e with key:=key,val:=a.eval v}).map (·.born)=xs.map (·.born):=by
   apply List.ext_getElem?;intro i;simp only[List.getElem?_map,List.getElem?_modify];cases xs[i]? <;>simp
   split<;>rfl
  refine fin (xs.modify j λe=>{e with key:=key,val:=a.eval v}) c (hexec _ ?_) ⟨this.1,this.2,by rw[LU,hR.2.2.1];simp,by simp[hR.2.2.2]⟩
  ·have:=ff ((xs.modify j λe=>{e with key:=key,val:=a.eval v}).toArray,c)
   simp only at this;simp[Instr.mapUpdate,run_underlying g1,dD,ON,hf,q3,hke,hst];exact this
theorem Da{k:Value}:∀(es:List (Value×LV)) (xs:List MapEntry) (i:Nat),xs.map (·.key)=es.map (·.1)->
  (∀v,bz k es=some v->∃u,hU k xs i=some (i+pH k es,u))/\(bz k es=none->pH k es=es.length)
 |[],xs,i,h=>⟨λv q=>by simp[bz]at q,λ_=>rfl⟩
 |e::es,xs,i,h=>by
  cases xs with
  |nil=>simp at h
  |cons x xs=>
   simp at h;have ih:=Da (k:=k) es xs (i+1) h.2;simp only[bz,hU,pH,h.1];cases hk:wv k e.1
   ·simp only[Bool.false_eq_true,if_false,List.length_cons];refine⟨λv q=>?_,λq=>by rw[ih.2 q]⟩
    obtain⟨u,hu⟩:=ih.1 v q;exact⟨u,by rw[hu];congr 2;omega⟩
   ·simp only[if_true];exact⟨λv _=>⟨x.val,by simp⟩,λq=>by cases q⟩
theorem C7{k:Value}{u v:LV}:∀es:List (Value×LV),yu (pH k es) v (cg k u es)=cg k v es
 |[]=>rfl
 |e::es=>by
  have ih:=C7 (k:=k) (u:=u) (v:=v) es;simp only[pH,cg];cases hk:wv k e.1
  ·simp only[Bool.false_eq_true,if_false];unfold yu at ih|-;rw[List.modify_succ_cons,ih]
  ·simp only[if_true];rfl
theorem MJ{k:Value}{u:LV}:∀es:List (Value×LV),pH k es<(cg k u es).length
 |[]=>by simp[pH,cg]
 |e::es=>by
  have ih:=MJ (k:=k) (u:=u) es;simp only[pH,cg];cases hk:wv k e.1
  ·simp only[Bool.false_eq_true,if_false,List.length_cons];omega
  ·simp
theorem Hz(cU:mT P ty)(heq:yD P bP)(LH:vJ P bP){T kt et:TypeId}{d ed:aS}{m k:Operand}{kk:KK}{z:LV}{key:Value}{n:Nat}{es:List (Value×LV)}(ho:o.op=.mapEntry T m k)(hok:d.ok P T)(hk:d.k=.map kt et)(hkk:gf ty bP kt=some kk)
  (gu:ed.ok P et) (hz:kS ed=some z) (hkey:keyOf (s.arg k)=some key) (hm:s.arg m=.gm n) (hn:s.H.obj n=some (.map es)) (hp:s.aI m) (hq:s.aI k) (h1:kk.has key=true) (h2:es.all (λe=>kk.has e.1)=true)
  (hs:cz E s a w) (aM:∀t,o.dst=some t->t<s.nt) (pre:Prop):bR P E s o a w ⟨pre,.dx [(bz key es).getD z,.d (.k (.int .i64 (pH key es)))],.dK n (.map (cg key ((bz key es).getD z) es))⟩:=by
 obtain⟨e1,G,lm,e2,hM,hx,aK,_⟩:=hs;have Cs:=aV aK m hp;rw[hm]at Cs;unfold LR at Cs;have hkv:=E4 (aV aK k hq) hkey;obtain⟨desc,g1,g2⟩:=hok.u;rw[hk]at g2;cases desc<;>simp only[TK.ok]at g2;obtain⟨rfl,rfl⟩:=g2;obtain⟨hlt,hown,xs,c,hb,hR⟩:=ni hM hn;obtain⟨hf,ON⟩:=nu cU heq LH hkk h1 xs (rp hR.1 h2) w;obtain⟨zv,sP,qh⟩:=lW gu hz w;have dD:(getObj (G.nm n)).run P w=.ok (.map xs.toArray c) w:=MapKept.run_getObj_map hb;have ff:∀ob:Array MapEntry×Nat,(setObj (G.nm n) (.map ob.1 ob.2)).run P w=.ok () (eM w (G.nm n) (.map ob.1 ob.2)):=λob=>MapKept.run_setObj_map _ hb
 have wG:=eA hb;have Ff:=Da (k:=key) es xs 0 hR.1;have fin:∀(xs':List MapEntry) (c':Nat) (u:Value),(execOp a.eval o).run P w=.ok (.value (.tuple #[u,.int .i64 (pH key es)])) (eM w (G.nm n) (.map xs'.toArray c'))->LR G s.H.next gP ((bz key es).getD z) u->JY G s.H.next (cg key ((bz key es).getD z) es) xs' c'->
   bR P E s o a w ⟨pre,.dx [(bz key es).getD z,.d (.k (.int .i64 (pH key es)))],.dK n (.map (cg key ((bz key es).getD z) es))⟩:=by
  intro xs' c' u hrun hu hR';have yQ:=hM.dK n hn (.map (cg key ((bz key es).getD z) es)) (.map xs'.toArray c') hown (by simp) (by simp) ⟨hown,xs',c',by rw[ee,if_pos ⟨rfl,wG⟩],hR'⟩
  refine⟨.value (.tuple #[u,.int .i64 (pH key es)]),_,_,hrun,.inl rfl,cz.mk' (L':=s.L) (H':=s.H.set n (.map (cg key ((bz key es).getD z) es))) e1 e2 yQ (hx.dK hM n _ _ hown) aK ?_ aM⟩;unfold LR bE bE bE;exact⟨[u,.int .i64 (pH key es)],rfl,_,_,rfl,bA (Nat.le_refl _) (Gh.le_refl _ _) (λ_ _ e=>by cases e) _ _ hu,_,_,rfl,by unfold LR DR;exact⟨rfl,rfl⟩,rfl⟩
 rcases yW (k:=key) es xs 0 hR.1 hR.2.1 with⟨q1,q2⟩|⟨j,e,v0,q1,q2,q3,q4,q5⟩
 ·rw[q2]at hf;have hput:=(EK (k:=key) (qh G s.H.next gP) es xs hR.1 hR.2.1).1 c q1;have hmc:pH key es=c:=by
   rw[Ff.2 q1,hR.2.2.2];have:=congrArg List.length hR.1;simpa using this.symm
  rw[q1]at fin|-;simp only[Option.getD_none]at fin|-;refine fin (xs++[(⟨key,zv,c⟩:MapEntry)]) (c+1) zv ?_ (qh _ _ _) ⟨hput.1,hput.2,?_,by simp[hR.2.2.2]⟩
  ·have:=ff ((xs++[(⟨key,zv,c⟩:MapEntry)]).toArray,c+1);simp only at this;simp[execOp,ho,Cs.2,hkv,Instr.mapEntry,run_underlying g1,dD,ON,hf,sP,goInt,hmc];rw[this];rfl
  ·simp[hR.2.2.1,hR.2.2.2,List.range_succ]
 ·rw[q2]at hf;have hput:=(EK (k:=key) q5 es xs hR.1 hR.2.1).2 0 j e.val q2;have hmem:e∈xs:=List.mem_of_getElem? q3;have hke:e.key=key:=(Re h1 (rp hR.1 h2 e hmem) q4).symm;have hst:=stays h1 w (P:=P);have hmj:pH key es=j:=by
   obtain⟨u,hu⟩:=Ff.1 v0 q1;rw[q2]at hu;simp only[Option.some.injEq,Prod.mk.injEq]at hu;omega
  have hbj:e.born=j:=by
   have:=congrArg (λl=>l[j]?) hR.2.2.1
   have hjl:=(List.getElem?_eq_some_iff.1 q3).1;simp only[List.getElem?_map,q3,Option.map_some,List.getElem?_range hjl]at this;exact Option.some.inj this
  rw[q1]at fin|-;simp only[Option.getD_some]at fin|-;have hsame:(xs.modify j λe'=>{e' with key:=key,val:=e.val})=xs.modify j λe'=>{e' with key:=key}:=by
   apply List.ext_getElem?;intro i;simp only[List.getElem?_modify];by_cases hi:j=i
   ·subst hi;simp[q3]
   ·simp[hi]
  have LU:(xs.modify j λe'=>{e' with key:=key,val:=e.val}).map (·.born)=xs.map (·.born):=by
   apply List.ext_getElem?;intro i;simp only[List.getElem?_map,List.getElem?_modify];cases xs[i]? <;>simp
   split<;>rfl
  refine fin (xs.modify j λe'=>{e' with key:=key,val:=e.val}) c e.val ?_ q5 ⟨hput.1,hput.2,by rw[LU,hR.2.2.1];simp,by simp[hR.2.2.2]⟩
  have:=ff ((xs.modify j λe'=>{e' with key:=key,val:=e.val}).toArray,c)
  simp only at this;rw[hsame]at this|-;simp[execOp,ho,Cs.2,hkv,Instr.mapEntry,run_underlying g1,dD,ON,hf,q3,hke,hst,goInt,hmj,hbj];rw[this];rfl
theorem BT{G:Gh}{nx:Nat}{lm:Nat->Option Nat}{v:LV}{u:Value}(h:LR G nx lm v u):∀(j:Nat) (l:List LV) (vs:List Value),bE G nx lm l vs->bE G nx lm (l.modify j λ_=>v) (vs.modify j λ_=>u)
 |_,[],vs,hl=>by unfold bE at hl;subst hl;simp[bE]
 |0,x::l,vs,hl=>by
  unfold bE at hl;obtain⟨y,r,rfl,h1,h2⟩:=hl;simp only[List.modify_zero_cons];unfold bE;exact⟨_,_,rfl,h,h2⟩
 |j+1,x::l,vs,hl=>by
  unfold bE at hl;obtain⟨y,r,rfl,h1,h2⟩:=hl;simp only[List.modify_succ_cons];unfold bE;exact⟨_,_,rfl,h1,BT h j l r h2⟩
theorem Ci{T:TypeId}{m t v:Operand}{n:Nat}{kd:IntKind}{j:Int}{es:List (Value×LV)}(ho:o.op=.entryStore T m t v)(hm:s.arg m=.gm n)(ht:s.arg t=.d (.k (.int kd j)))(hn:s.H.obj n=some (.map es))(hp:s.aI m)(hq:s.aI t)(hr:s.aI v)(h0:0<=j)(h1:j<es.length)
  (hnb:(s.arg v).nb s.H.next) (hs:cz E s a w) (aM:∀t,o.dst=some t->t<s.nt) (pre:Prop):bR P E s o a w ⟨pre,.any,.dK n (.map (yu j.toNat (s.arg v) es))⟩:=by
 obtain⟨e1,G,lm,e2,hM,hx,aK,_⟩:=hs;have Cs:=aV aK m hp;rw[hm]at Cs;unfold LR at Cs;have htv:=aV aK t hq;rw[ht]at htv;unfold LR DR at htv;have hvv:=jq _ _ (aV aK v hr) hnb;obtain⟨hlt,hown,xs,c,hb,hR⟩:=ni hM hn;have hl:xs.length=es.length:=by have:=congrArg List.length hR.1;simpa using this
 have dD:(getObj (G.nm n)).run P w=.ok (.map xs.toArray c) w:=MapKept.run_getObj_map hb;have wG:=eA hb;obtain⟨i,rfl⟩:∃i:Nat,j=(i:Int):=⟨j.toNat,by omega⟩
 have hi:i<xs.length:=by omega
 have Dy:∀(q:Nat) (h:q<xs.length),xs[q].born=q:=λq h=>by
  have:=congrArg (λl=>l[q]?) hR.2.2.1
  simp only[List.getElem?_map,List.getElem?_eq_getElem h,Option.map_some,List.getElem?_range h]at this;exact Option.some.inj this
 have hidx:xs.toArray.findIdx? (λe=>((e.born:Nat):Int)==(i:Int))=some i:=by
  rw[List.findIdx?_toArray,List.findIdx?_eq_some_iff_getElem];refine⟨hi,by simp[Dy i hi],λq hq=>?_⟩
  simp only[Dy q (by omega)]
  simp;omega
 have ff:(setObj (G.nm n) (.map (xs.modify i λe=>{e with val:=a.eval v}).toArray c)).run P w=.ok () (eM w (G.nm n) (.map (xs.modify i λe=>{e with val:=a.eval v}).toArray c)):=MapKept.run_setObj_map _ hb
 have hrun:(execOp a.eval o).run P w=.ok .skip (eM w (G.nm n) (.map (xs.modify i λe=>{e with val:=a.eval v}).toArray c)):=by
  simp[execOp,ho,Cs.2,htv.1,Instr.entryStore,dD,asInt,asIntOf,hidx,ff]
 have hR':JY G s.H.next (yu i (s.arg v) es) (xs.modify i λe=>{e with val:=a.eval v}) c:=by
  refine⟨?_,?_,?_,by rw[List.length_modify];exact hR.2.2.2⟩
  ·have a1:(xs.modify i λe=>{e with val:=a.eval v}).map (·.key)=xs.map (·.key):=by
    apply List.ext_getElem?;intro q;simp only[List.getElem?_map,List.getElem?_modify];cases xs[q]? <;>simp
    split<;>rfl
   have a2:(yu i (s.arg v) es).map (·.1)=es.map (·.1):=by
    apply List.ext_getElem?;intro q;simp only[yu,List.getElem?_map,List.getElem?_modify];cases es[q]? <;>simp
    split<;>rfl
   rw[a1,a2,hR.1]
  ·have a1:(xs.modify i λe=>{e with val:=a.eval v}).map (·.val)=(xs.map (·.val)).modify i λ_=>a.eval v:=by
    apply List.ext_getElem?;intro q;simp only[List.getElem?_map,List.getElem?_modify];cases xs[q]? <;>simp
    split<;>rfl
   have a2:(yu i (s.arg v) es).map (·.2)=(es.map (·.2)).modify i λ_=>s.arg v:=by
    apply List.ext_getElem?;intro q;simp only[yu,List.getElem?_map,List.getElem?_modify];cases es[q]? <;>simp
    split<;>rfl
   rw[a1,a2];exact BT hvv i _ _ hR.2.1
  ·have a1:(xs.modify i λe=>{e with val:=a.eval v}).map (·.born)=xs.map (·.born):=by
    apply List.ext_getElem?;intro q;simp only[List.getElem?_map,List.getElem?_modify];cases xs[q]? <;>simp
    split<;>rfl
   rw[a1,hR.2.2.1,List.length_modify]
 have yQ:=hM.dK n hn (.map (yu i (s.arg v) es)) (.map (xs.modify i λe=>{e with val:=a.eval v}).toArray c) hown (by simp) (by simp) ⟨hown,_,c,by rw[ee,if_pos ⟨rfl,wG⟩],hR'⟩
 exact⟨.skip,undef,_,hrun,.inr ⟨rfl,rfl⟩,cz.mk' (L':=s.L) (H':=s.H.set n (.map (yu i (s.arg v) es))) e1 e2 yQ (hx.dK hM n _ _ hown) aK (by simp[LR]) aM⟩
theorem Q9{G:Gh}{nx:Nat}{lm:Nat->Option Nat}:∀vs:List Value,vs.all Value.oneCell'=true->bE G nx lm (vs.map kz) vs
 |[],_=>by simp[bE]
 |v::vs,h=>by
  simp only[List.all_cons,Bool.and_eq_true]at h;simp only[List.map_cons];unfold bE;exact⟨v,vs,rfl,xM h.1,Q9 vs h.2⟩
theorem Qc{r:uL}{x:Operand}{xT aT:TypeId}(cU:mT P ty)(ho:o.op=.typeAssert x xT aT true)(h:CI ty s x aT=some r)(hp:r.pre)(hs:cz E s a w)(aM:∀t,o.dst=some t->t<s.nt):bR P E s o a w r:=by
 unfold CI at h
 split at h
 ·cases h
 ·rename_i d t v hne hT hx;obtain⟨desc,g1,g2⟩:=(cU aT d hT).u;have hn:∀ms,desc≠ .interface ms:=λms e=>by
   subst e;obtain⟨k,sz,zero,bt⟩:=d;cases k<;>simp only[TK.ok]at g2;exact hne _ _ _ _ rfl
  split at h
  ·rename_i e;subst e
   split at h
   ·rename_i vs
    split at h
    ·rename_i hall;cases h;refine bR.pure hs aM λG lm hM aK=>?_
     have hv:=aV aK x hp;rw[hx]at hv;unfold LR DR at hv;refine⟨.tuple #[.agg vs,.bool true],?_,?_⟩
     ·cases desc<;>first|exact absurd rfl (hn _)|simp[execOp,ho,Instr.typeAssert,run_underlying g1,hv.1]
     ·unfold LR bE bE bE;exact⟨_,rfl,_,_,rfl,by unfold LR;exact⟨vs.toList,by simp,Q9 _ hall⟩,_,_,rfl,by unfold LR DR;exact⟨rfl,rfl⟩,rfl⟩
    ·cases h
   ·split at h
    ·rename_i v' hna hall;cases h;refine bR.pure hs aM λG lm hM aK=>?_
     have hv:=aV aK x hp;rw[hx]at hv;unfold LR DR at hv;refine⟨.tuple #[v,.bool true],?_,?_⟩
     ·cases desc<;>first|exact absurd rfl (hn _)|simp[execOp,ho,Instr.typeAssert,run_underlying g1,hv.1]
     ·unfold LR bE bE bE;exact⟨_,rfl,_,_,rfl,by unfold LR DR;exact⟨rfl,hall⟩,_,_,rfl,by unfold LR DR;exact⟨rfl,rfl⟩,rfl⟩
    ·cases h
  ·rename_i hte;simp only[Option.map_eq_some_iff]at h;obtain⟨z,hz,rfl⟩:=h;refine bR.pure hs aM λG lm hM aK=>?_
   have hv:=aV aK x hp;rw[hx]at hv;unfold LR DR at hv;obtain⟨zv,sP,qh⟩:=lW (cU aT d hT) hz w;refine⟨.tuple #[zv,.bool false],?_,?_⟩
   ·cases desc<;>first|exact absurd rfl (hn _)|simp[execOp,ho,Instr.typeAssert,run_underlying g1,hv.1,hte,sP]
   ·unfold LR bE bE bE;exact⟨_,rfl,_,_,rfl,qh _ _ _,_,_,rfl,by unfold LR DR;exact⟨rfl,rfl⟩,rfl⟩
 ·rename_i d hne hT hx;obtain⟨desc,g1,g2⟩:=(cU aT d hT).u;have hn:∀ms,desc≠ .interface ms:=λms e=>by
   subst e;obtain⟨k,sz,zero,bt⟩:=d;cases k<;>simp only[TK.ok]at g2;exact hne _ _ _ _ rfl
  simp only[Option.map_eq_some_iff]at h;obtain⟨z,hz,rfl⟩:=h;refine bR.pure hs aM λG lm hM aK=>?_
  have hv:=aV aK x hp;rw[hx]at hv;unfold LR DR at hv;obtain⟨zv,sP,qh⟩:=lW (cU aT d hT) hz w;refine⟨.tuple #[zv,.bool false],?_,?_⟩
  ·cases desc<;>first|exact absurd rfl (hn _)|simp[execOp,ho,Instr.typeAssert,run_underlying g1,hv.1,sP]
  ·unfold LR bE bE bE;exact⟨_,rfl,_,_,rfl,qh _ _ _,_,_,rfl,by unfold LR DR;exact⟨rfl,rfl⟩,rfl⟩
 ·cases h
theorem ou(cU:mT P ty)(heq:yD P bP)(LH:vJ P bP)(h:bS ty bP bJ s o.dst o.op=some r)(hp:r.pre)(hs:cz E s a w)(aM:∀t,o.dst=some t->t<s.nt):bR P E s o a w r:=by
 have hbi:∀b args tys,o.op=.call ⟨.builtin b,args,tys⟩->bR P E s o a w r:=by
  intro b args tys ho;have ho0:=ho;rw[ho]at h;simp only[bS]at h;cases Tn:eD ty bJ s o.dst b tys.toList args.toList with
  |some r'=>rw[Tn,Option.some_or]at h;cases h;exact F5 cU ho0 Tn hp hs aM
  |none=>
  rw[Tn,Option.none_or]at h;unfold rQ at h;have alen:∀{l:List Operand} {x:Operand},args.toList=[x]->args=#[x]:=λe=>Array.toList_inj.1 e
  split at h
  ·rename_i t x e1 e2;have ea:args=#[x]:=Array.toList_inj.1 e2;have et:tys=#[t]:=Array.toList_inj.1 e1;subst ea;subst et;cases hT:ty t with
   |none=>rw[hT]at h;cases h
   |some d=>
    obtain⟨k,sz,zero,bt⟩:=d;obtain⟨desc,g1,g2⟩:=(cU t _ hT).u;rw[hT]at h;cases k<;>simp only[reduceCtorEq]at h
    ·cases desc<;>simp only[TK.ok]at g2;simp only[Option.map_eq_some_iff]at h;obtain⟨xs,hx,rfl⟩:=h;refine xx ho hs aM λG lm hM aK=>?_
     obtain⟨A,cap,hv⟩:=tQ (aV aK x hp) hx;exact⟨.int .i64 xs.length,λcs=>by simp[builtin,Builtin.len_,run_underlying g1,hv,goInt],by unfold oD LR DR;exact⟨rfl,rfl⟩⟩
    ·cases desc<;>simp only[TK.ok]at g2
     split at h
     ·rename_i n hx
      split at h
      ·rename_i es hn;cases h;refine xx ho hs aM λG lm hM aK=>?_
       have hv:=aV aK x hp;rw[hx]at hv;unfold LR at hv;obtain⟨_,hown,xs,c,hb,hR⟩:=ni hM hn;have dD:(getObj (G.nm n)).run P w=.ok (.map xs.toArray c) w:=MapKept.run_getObj_map hb;have hl:xs.length=es.length:=by have:=congrArg List.length hR.1;simpa using this
       exact⟨.int .i64 es.length,λcs=>by simp[builtin,Builtin.len_,run_underlying g1,hv.2,dD,goInt,hl],by unfold oD LR DR;exact⟨rfl,rfl⟩⟩
      ·cases h
     ·rename_i hx;cases h;refine xx ho hs aM λG lm hM aK=>?_
      have hv:=aV aK x hp;rw[hx]at hv;unfold LR DR at hv;exact⟨.int .i64 0,λcs=>by simp[builtin,Builtin.len_,run_underlying g1,hv.1,goInt],by unfold oD LR DR;exact⟨rfl,rfl⟩⟩
     ·cases h
    ·cases desc<;>simp only[TK.ok]at g2
     split at h
     ·rename_i z hx;cases h;refine xx ho hs aM λG lm hM aK=>?_
      have hv:=aV aK x hp;rw[hx]at hv;unfold LR DR at hv;exact⟨.int .i64 z.size,λcs=>by simp[builtin,Builtin.len_,run_underlying g1,hv.1,goInt],by unfold oD LR DR;exact⟨rfl,rfl⟩⟩
     ·cases h
  ·rename_i tt x y e2;have ea:args=#[x,y]:=Array.toList_inj.1 e2;subst ea
   split at h
   ·rename_i k m k' n hx hy;cases h;refine xx ho hs aM λG lm hM aK=>?_
    have hv:=aV aK x hp.1;have hu:=aV aK y hp.2;rw[hx]at hv;rw[hy]at hu;unfold LR DR at hv hu;exact⟨.int k (ic m n),λcs=>by simp[builtin,Builtin.min_,Builtin.min2,hv.1,hu.1,ic],by unfold oD LR DR;exact⟨rfl,rfl⟩⟩
   ·cases h
  ·rename_i tt x y e2;have ea:args=#[x,y]:=Array.toList_inj.1 e2;subst ea
   split at h
   ·rename_i k m k' n hx hy;cases h;refine xx ho hs aM λG lm hM aK=>?_
    have hv:=aV aK x hp.1;have hu:=aV aK y hp.2;rw[hx]at hv;rw[hy]at hu;unfold LR DR at hv hu;exact⟨.int k (jN m n),λcs=>by simp[builtin,Builtin.max_,Builtin.max2,hv.1,hu.1,jN],by unfold oD LR DR;exact⟨rfl,rfl⟩⟩
   ·cases h
  ·rename_i t t' x y e1 e2;have ea:args=#[x,y]:=Array.toList_inj.1 e2;have et:tys=#[t,t']:=Array.toList_inj.1 e1;subst ea;subst et
   split at h
   ·rename_i htt;have hST:SlT P t t':=by
     rcases htt with q|q
     ·exact .inl q.symm
     ·unfold slK at q
      split at q
      ·exact .inr ⟨_,_,cU _ _ ‹_›,rfl⟩
      ·cases q
    cases hT:ty t with
    |none=>rw[hT]at h;cases h
    |some d=>
     obtain⟨k,sz,zero,bt⟩:=d;rw[hT]at h;cases k<;>simp only[reduceCtorEq]at h;rename_i e;cases he:ty e with
     |none=>rw[he]at h;cases h
     |some ed=>
      rw[he]at h;simp only[Option.bind_some]at h
      split at h
      ·cases h
      ·rename_i hsz;cases hy:rowsOf (s.arg y)with
       |none=>rw[hy]at h;cases h
       |some ys=>
        rw[hy]at h;simp only[Option.bind_some]at h;obtain⟨g2,G,lm,g1,hM,hx,aK,_⟩:=id hs
        split at h
        ·rename_i n xs hxa
         split at h
         ·rename_i e' sz' m hn
          split at h
          ·rename_i hc;obtain⟨rfl,rfl⟩:=hc;cases h;obtain⟨p1,p2,rfl,p4,p5,p6⟩:=hp;have ku:=aV aK x p1;rw[hxa]at ku;obtain⟨v',w',hr,hS⟩:=x7 (cU t _ hT) rfl (cU e' _ he) hST ho g1 g2 hM hx aK hn ku (aV aK y p2) hy p4 p5 p6 hsz aM;exact⟨_,v',w',hr,.inl rfl,hS⟩
          ·cases h
         ·cases h
        ·rename_i hxa;cases h;obtain⟨p1,p2,p4,p5⟩:=hp;have ku:=aV aK x p1;rw[hxa]at ku;unfold LR DR at ku;have hle:=FD (G:=G) s.H.next (.slice none 0 0) 0;have hM1:=hM.S2 e ed.sz (by omega)
         have hx1:Ext E (uy G s.H.next (.slice none 0 0) 0) (s.H.add (.arr e ed.sz 0)) w:=Ext.trans hx ⟨hle,Nat.le_succ _,rfl,rfl,rfl,Nat.le_refl _,Nat.le_refl _,λ_ _ _=>rfl,λ_ _=>.inl rfl⟩
         have RH:=gK (s:=s) (a:=a) (Nat.le_succ s.H.next) hle (λ_ _ e=>e) aK
         have hosl:LR (uy G s.H.next (.slice none 0 0) 0) (s.H.add (.arr e ed.sz 0)).next lm (.kQ s.H.next []) (a.eval x):=by
          unfold LR;refine⟨Nat.lt_succ_self _,?_,by simp,λ_=>by rw[ku.1];simp[uy]⟩
          rw[ku.1];unfold DR;exact⟨none,0,ed.sz,rfl,Nat.le_refl _,by simp[maxLen],by simp,.inl rfl⟩
         obtain⟨v',w',hr,hS⟩:=x7 (s:=s) (H:=s.H.add (.arr e ed.sz 0)) (n:=s.H.next) (xs:=[]) (cU t _ hT) rfl (cU e _ he) hST ho (ck (Nat.le_succ _) hle _ _ g1) g2 hM1 hx1 RH (by simp[GH.au]) hosl (bA (Nat.le_succ _) hle (λ_ _ e=>e) _ _ (aV aK y p2)) hy (by simp) p4 (by simpa using p5) hsz aM
         rw[BY]at hS;refine⟨_,v',w',hr,.inl rfl,?_⟩;simpa[S.jU]using hS
        ·cases h
   ·cases h
  ·cases h
 cases hop:o.op with
 |call c=>
  obtain⟨callee,args,tys⟩:=c;cases callee with
  |builtin b=>exact hbi b args tys hop
  |value f=>rw[hop]at h;simp[bS,cE]at h
  |invoke f m=>rw[hop]at h;simp[bS,cE]at h
 |lookup T m k ok=>
  rw[hop]at h;simp only[bS]at h;cases hT:ty T with
  |none=>rw[hT]at h;cases h
  |some d=>
   obtain⟨kd,sz,zero,bt⟩:=d;rw[hT]at h;cases kd<;>simp only[reduceCtorEq]at h;rename_i kt et;cases hkk:gf ty bP kt with
   |none=>rw[hkk]at h;cases h
   |some kk=>
    cases he:ty et with
    |none=>rw[hkk,he]at h;cases h
    |some ed=>
     cases hz:kS ed with
     |none=>rw[hkk,he]at h;simp[hz]at h
     |some z=>
      cases hkey:keyOf (s.arg k)with
      |none=>rw[hkk,he]at h;simp[hz,hkey]at h
      |some key=>
       rw[hkk,he]at h;simp only[Option.bind_some,hz,hkey]at h
       split at h
       ·rename_i n hm
        split at h
        ·rename_i es hn;cases h;exact Of cU heq LH hop (cU _ _ hT) rfl hkk (cU _ _ he) hz hkey hm hn hp.1 hp.2.1 hp.2.2.1 hp.2.2.2 hs aM _
        ·cases h
       ·rename_i hm;cases h;exact EL cU heq LH hop (cU _ _ hT) rfl hkk (cU _ _ he) hz hkey hm hp.1 hp.2.1 hp.2.2 hs aM _
       ·cases h
 |mapUpdate T m k v=>
  rw[hop]at h;simp only[bS]at h
  split at h
  ·rename_i kt et sz zero bt n hT hm;cases hkk:gf ty bP kt with
   |none=>rw[hkk]at h;cases h
   |some kk=>
    cases hkey:keyOf (s.arg k)with
    |none=>rw[hkk]at h;simp[hkey]at h
    |some key=>
     rw[hkk]at h;simp only[Option.bind_some,hkey]at h
     split at h
     ·rename_i es hn;cases h;exact uZ cU heq LH (.inl hop) (cU _ _ hT) rfl hkk hkey hm hn hp.1 hp.2.1 hp.2.2.1 hp.2.2.2.1 hp.2.2.2.2.1 hp.2.2.2.2.2 hs aM _
     ·cases h
  ·cases h
 |insert T m k v=>
  rw[hop]at h;simp only[bS]at h
  split at h
  ·rename_i kt et sz zero bt n hT hm;cases hkk:gf ty bP kt with
   |none=>rw[hkk]at h;cases h
   |some kk=>
    cases hkey:keyOf (s.arg k)with
    |none=>rw[hkk]at h;simp[hkey]at h
    |some key=>
     rw[hkk]at h;simp only[Option.bind_some,hkey]at h
     split at h
     ·rename_i es hn;cases h;exact uZ cU heq LH (.inr hop) (cU _ _ hT) rfl hkk hkey hm hn hp.1 hp.2.1 hp.2.2.1 hp.2.2.2.1 hp.2.2.2.2.1 hp.2.2.2.2.2 hs aM _
     ·cases h
  ·cases h
 |mapEntry T m k=>
  rw[hop]at h;simp only[bS]at h
  split at h
  ·rename_i kt et sz zero bt n hT hm;cases hkk:gf ty bP kt with
   |none=>rw[hkk]at h;cases h
   |some kk=>
    cases he:ty et with
    |none=>rw[hkk,he]at h;cases h
    |some ed=>
     cases hz:kS ed with
     |none=>rw[hkk,he]at h;simp[hz]at h
     |some z=>
      cases hkey:keyOf (s.arg k)with
      |none=>rw[hkk,he]at h;simp[hz,hkey]at h
      |some key=>
       rw[hkk,he]at h;simp only[Option.bind_some,hz,hkey]at h
       split at h
       ·rename_i es hn;cases h;exact Hz cU heq LH hop (cU _ _ hT) rfl hkk (cU _ _ he) hz hkey hm hn hp.1 hp.2.1 hp.2.2.1 hp.2.2.2 hs aM _
       ·cases h
  ·cases h
 |entryStore T m t v=>
  rw[hop]at h;simp only[bS]at h
  split at h
  ·rename_i n kd j hm ht
   split at h
   ·rename_i es hn;cases h;exact Ci hop hm ht hn hp.1 hp.2.1 hp.2.2.1 hp.2.2.2.1 hp.2.2.2.2.1 hp.2.2.2.2.2 hs aM _
   ·cases h
  ·cases h
 |slice T x lo hi mx=>
  rw[hop]at h;cases mx with
  |some m=>simp only[bS]at h;exact ot cU (by rw[hop];exact h) hp hs aM
  |none=>
   simp only[bS]at h;cases hv:Qf ty s T x lo hi with
   |some r'=>rw[hv,Option.some_or]at h;cases h;exact N2 cU hop hv hp hs aM
   |none=>rw[hv,Option.none_or]at h;exact ot cU (by rw[hop];exact h) hp hs aM
 |makeSlice T l c=>
  rw[hop]at h;simp only[bS]at h;exact Le cU hop h hp hs aM
 |index T x i=>
  rw[hop]at h;simp only[bS]at h;exact ot cU (by rw[hop];exact h) hp hs aM
 |makeInterface T x=>
  rw[hop]at h;simp only[bS]at h;exact ot cU (by rw[hop];exact h) hp hs aM
 |convert A B x=>
  rw[hop]at h;simp only[bS]at h;exact ot cU (by rw[hop];exact h) hp hs aM
 |typeAssert x xT aT ok=>
  rw[hop]at h;cases ok with
  |true=>simp only[bS]at h;exact Qc cU hop h hp hs aM
  |false=>simp only[bS,cE]at h;cases h
 |binOp bo T x y yT=>
  rw[hop]at h;simp only[bS]at h;cases hn:mz ty s bo T x y with
  |none=>
   rw[hn,Option.none_or]at h;exact xu cU heq (by rw[hop];exact h) hp hs aM
  |some r'=>
   rw[hn,Option.some_or]at h;cases h;exact ER cU hop hn hp hs aM
 |_=>
  have h':cE ty bP bJ s o.dst o.op=some r:=by rw[hop]at h|-;exact h
  exact xu cU heq h' hp hs aM
end
end Go.Aft
end
section
namespace Go.Aft
def gM(G:Gh):Gh:={G with own:=λb=>match G.own b with|.loc _=>.pU|o=>o}
theorem mM(nx:Nat)(G:Gh):G.le nx (gM G):=⟨Mem.le_refl _,λ_ _=>rfl,λ_ _=>⟨Nat.le_refl _,λ_=>rfl⟩⟩
def jk(G G2:Gh):Gh:={G2 with own:=λb=>match G.own b with|.loc k=>.loc k|_=>G2.own b}
theorem kK(nx:Nat)(G G2:Gh):G2.le nx (jk G G2):=⟨Mem.le_refl _,λ_ _=>rfl,λ_ _=>⟨Nat.le_refl _,λ_=>rfl⟩⟩
section
variable {E:sW} {G:Gh} {lm:Nat->Option Nat} {L:Nat->Option (List LV)} {H:GH} {w:World}
theorem zb(h:MR G lm L H w):MR (gM G) gP uF H w/\kN (gM G):=by
 have hn:∀b n,G.own b=.nm n->(gM G).own b=.nm n:=λb n hb=>by simp[gM,hb]
 refine⟨⟨h.qg,λb o v hv=>?_,λb hb=>?_,λ_ _=>rfl,λk cs hk=>by simp[uF]at hk,λn o ho=>?_⟩,λb k=>?_⟩
 ·rcases h.dm b o v hv with q|⟨n,e,sz,m,q1,q2,q3⟩
  ·left;simp[gM,q]
  ·exact .inr (⟨n,e,sz,m,hn b n q1,q2,q3⟩)
 ·exact⟨by simp[gM,(h.fresh b hb).1],(h.fresh b hb).2⟩
 ·obtain⟨h1,h2⟩:=h.gX n o ho;exact⟨h1,fu (Nat.le_refl _) h1 (mM _ G) h2 ⟨rfl,rfl⟩ λb hb=>⟨hn b n hb,rfl,λ_ _ q=>q⟩⟩
 ·simp only[gM];cases G.own b<;>simp
theorem zc(h:MR G lm L H w)(hx:Ext E G H w){G2:Gh}{H2:GH}{w2:World}(h2:MR G2 gP uF H2 w2)(hn2:kN G2)(hx2:Ext ⟨gM G,H,w⟩ G2 H2 w2):
  MR (jk G G2) lm L H2 w2/\Ext E (jk G G2) H2 w2/\G.le H.next (jk G G2):=by
 have hf:∀b k,G.own b=.loc k->G2.own b=.pU/\w2.heap[b]?=w.heap[b]?:=λb k hb=>by
  have hlt:=ja h (b:=b) (by rw[hb];simp)
  have hc:(gM G).own b=.pU:=by simp[gM,hb]
  refine⟨?_,hx2.frame b hlt (.inr hc)⟩;rcases hx2.own b hlt with q|⟨⟨n,q⟩,_⟩
  ·exact q.trans hc
  ·rw[hc]at q;cases q
 have DB:∀b n,G2.own b=.nm n->(jk G G2).own b=.nm n:=λb n hb=>by
  simp only[jk];cases ho:G.own b with
  |loc k=>rw[(hf b k ho).1]at hb;cases hb
  |_=>exact hb
 have hnone:∀b,G2.own b=.none->(jk G G2).own b=.none:=λb hb=>by
  simp only[jk];cases ho:G.own b with
  |loc k=>rw[(hf b k ho).1]at hb;cases hb
  |_=>exact hb
 have hle:G.le H.next (jk G G2):=Gh.le_trans (Nat.le_refl _) (mM _ G) (Gh.le_trans hx2.nx hx2.le (kK _ G G2));refine⟨⟨h2.qg,λb o v hv=>?_,λb hb=>?_,h.Cn,λk cs hk=>?_,λn o ho=>?_⟩,?_,hle⟩
 ·rcases h2.dm b o v hv with q|⟨n,e,sz,m,q1,q2,q3⟩
  ·exact .inl (hnone b q)
  ·exact .inr ⟨n,e,sz,m,DB b n q1,q2,q3⟩
 ·have hb':w.heap.size<=b:=Nat.le_trans hx2.size hb;exact⟨hnone b (h2.fresh b hb).1,(h2.fresh b hb).2⟩
 ·obtain⟨b,vs,q1,q2,q3,q4⟩:=h.loc k cs hk;exact⟨b,vs,q1,by simp[jk,q2],fR (hf b k q2).2 q3,bW hx2.nx hle (λ_ _ e=>e) _ _ q4⟩
 ·obtain⟨q1,q2⟩:=h2.gX n o ho;exact⟨q1,fu (Nat.le_refl _) q1 (kK _ G G2) q2 ⟨rfl,rfl⟩ λb hb=>⟨DB b n hb,rfl,λ_ _ q=>q⟩⟩
 ·refine Ext.trans hx ⟨hle,hx2.nx,hx2.os,hx2.tape,hx2.output,hx2.drawn,hx2.size,λb hb ho=>?_,λb hb=>?_⟩
  ·refine hx2.frame b hb ?_;rcases ho with q|q<;>simp only[gM]<;>simp only at q<;>rw[q]<;>simp
  ·simp only[jk];cases ho:G.own b with
   |loc k=>exact .inl rfl
   |none=>have:=hx2.own b hb;simp[gM,ho]at this;exact .inl this
   |pU=>have:=hx2.own b hb;simp[gM,ho]at this;exact .inl this
   |nm n=>
    have:=hx2.own b hb;simp[gM,ho]at this;rcases this with q|q
    ·exact .inl q
    ·exact .inr ⟨⟨n,rfl⟩,q⟩
end
structure Cx where
 ty:TypeId->Option aS
 bP:TypeId->Option (List Sc)
 bJ:Nat->Kd
 spec:FuncId->List LV->Option (Prop×LV)
 rd:RD
def Enters(P:Program)(f:FuncId):Prop:=∀args w,(callFunc f args).run P w=.ok (.enter f args) w
def aF(P:Program)(f:FuncId)(args:List LV)(H:GH)(R:CE->GH->Prop):Prop:=Enters P f/\jv P f args H R
def aC(P:Program)(f:FuncId)(args:List LV)(v:LV):Prop:=∀H,aF P f args H λce H'=>ce=.ret v/\H'=H
structure Cx.ok(P:Program)(c:Cx):Prop where
 ty:mT P c.ty
 bP:yD P c.bP
 key:vJ P c.bP
 spec:∀f args pre v,c.spec f args=some (pre,v)->pre->aC P f args v
 mixed:P.follows .mixedOrders=true
theorem aF.mono{P:Program}{f:FuncId}{args:List LV}{H:GH}{R R':CE->GH->Prop}(h:aF P f args H R)(hr:∀e H',R e H'->R' e H'):aF P f args H R':=⟨h.1,h.2.mono hr⟩
def dX(P:Program)(n:Nat)(args:List LV)(H:GH)(R:CE->GH->Prop):Prop:=
 ∀G w vs,MR G gP uF H w->kN G->bE G H.next gP args vs->∃fn tmps lu body,
  (Instr.yield (G.nm n) vs.toArray).run P w=.ok (.round (G.nm n) fn tmps lu body) w/\RoundIn Fence.wide 0 P (G.nm n) fn tmps lu body w (Eh G H w R)
def oB:Value->LV
 |.agg vs=>.agg (vs.toList.map kz)
 |v=>.d (.k v)
def oA:Value->Bool
 |.agg vs=>vs.toList.all Value.oneCell'
 |v=>v.oneCell'
def cu:LV->Option (FuncId×List LV×List LV)
 |.fn (.func f) first cap=>some (f,first,cap)
 |_=>none
def iL:List Prop->Prop
 |[]=>True
 |p::ps=>p/\iL ps
def UU(K:S->Prop)(Q:AE->S->Prop)(s:S)(dst:Option Nat):CE->GH->Prop
 |.ret v,H'=>K (({s with H:=H'}:S).put dst v)
 |.dY x,H'=>Q (.dY x) {s with H:=H'}
def nN(bJ:Nat->Kd):List Operand->S->Option S
 |[],s=>some s
 |o::l,s=>match s.get o with
  |.lp k 0=>if bJ k=.qg then(match s.L k with
   |some cs=>if gC cs=true then nN bJ l (s.frz k cs)else none
   |none=>none)else nN bJ l s
  |_=>nN bJ l s
def fN(P:Program)(c:Cx)(s:S)(dst:Option Nat)(op:Op)(K:S->Prop)(Q:AE->S->Prop):Prop:=
 match op with
 |.call ⟨.value fo,args,_⟩=>
  match cu (s.arg fo)with
  |none=>match s.arg fo with
   |.yl n=>s.aI fo/\iL (args.toList.map s.aI)/\ct s.H.next (args.toList.map s.arg)/\dX P n (args.toList.map s.arg) s.H (UU K Q s dst)
   |_=>False
  |some (f,first,cap)=>
   s.aI fo/\iL (args.toList.map s.aI)/\ct s.H.next (first++args.toList.map s.arg++cap)/\
   match c.spec f (first++args.toList.map s.arg++cap)with
   |some (pre,v)=>pre/\K (s.put dst v)
   |none=>aF P f (first++args.toList.map s.arg++cap) s.H (UU K Q s dst)
 |.defer ⟨.value fo,args,_⟩=>
  match cu (s.arg fo)with
  |none=>False
  |some (f,first,cap)=>c.rd.r=none/\s.aI fo/\iL (args.toList.map s.aI)/\ct s.H.next (first++args.toList.map s.arg)/\ct s.H.next cap/\K (({s with df:=.call f (first++args.toList.map s.arg) cap::s.df}:S).put dst .any)
 |.makeFunc fn first cap=>
  match nN c.bJ cap.toList s with
  |none=>False
  |some s'=>K (s'.put dst (.fn fn (first.toList.map s'.get) (cap.toList.map s'.get)))
 |.range T x=>
  match c.ty T,s.arg x with
  |some ⟨.map _ _,_,_,_⟩,.gm m=>match s.H.obj m with
   |some (.map es)=>s.aI x/\K (({s with H:=s.H.add (.iter m es.length [] es.length)}:S).put dst (.gp s.H.next 0))
   |_=>False
  |_,_=>False
 |.next x false=>
  match s.arg x with
  |.gp n 0=>match s.H.obj n with
   |some (.iter m since seen last)=>match s.H.obj m with
    |some (.map es)=>s.aI x/\since=es.length/\last=es.length/\es.all (λe=>oA e.1)=true/\
     (∀i e,es[i]?=some e->i∉seen->K (({s with H:=s.H.set n (.iter m since (seen++[i]) es.length)}:S).put dst (.dx [.d (.k (.bool true)),oB e.1,e.2])))/\
     ((∀i,i<es.length->i∈seen)->K (s.put dst (.dx [.d (.k (.bool false))])))
    |_=>False
   |_=>False
  |_=>False
 |.entry x=>
  match s.arg x with
  |.gp n 0=>match s.H.obj n with
   |some (.iter m since seen last)=>match s.H.obj m with
    |some (.map es)=>s.aI x/\last=es.length/\es.all (λe=>oA e.1)=true/\∃i e,seen.getLast?=some i/\es[i]?=some e/\K (s.put dst (.dx [oB e.1,e.2]))
    |_=>False
   |_=>False
  |_=>False
 |.panic x=>s.aI x/\(s.arg x).nb s.H.next/\(match s.arg x with|.d (.k (.iface _ _))=>Q (.dY (s.arg x)) s|_=>False)
 |.buildSlice T len parts=>match(bsV c.ty c.bJ s dst T len parts).or (bS c.ty c.bP c.bJ s dst (.buildSlice T len parts))with
  |none=>False
  |some r=>r.pre/\K ((s.jU dst r.jU).put dst r.v)
 |op=>match bS c.ty c.bP c.bJ s dst op with
  |none=>False
  |some r=>r.pre/\K ((s.jU dst r.jU).put dst r.v)
def cO(c:Cx)(s:S)(dst:Option Nat)(op:Op):Option (Prop×LV):=
 match op with
 |.call ⟨.value fo,args,_⟩=>
  match cu (s.arg fo)with
  |none=>none
  |some (f,first,cap)=>(c.spec f (first++args.toList.map s.arg++cap)).map λr=>(s.aI fo/\iL (args.toList.map s.aI)/\ct s.H.next (first++args.toList.map s.arg++cap)/\r.1,r.2)
 |op=>match bS c.ty c.bP c.bJ s dst op with
  |some ⟨pre,v,.no⟩=>some (pre,v)
  |_=>none
def mu(g:Bool)(x y:LV):LV:=
 match x,y with
 |.d (.k (.bool a)),.d (.k (.bool b))=>.d (.k (.bool (bif g then a else b)))
 |x,y=>bif g then x else y
def guardOf(ops:Array Oper)(s:S)(j:Nat)(want:Bool):Option Bool:=
 match(ops[j]?).bind (·.dst)with
 |none=>none
 |some t=>match s.env t with
  |.d (.k (.bool g))=>some (g==want)
  |.gd g0 (.d (.k (.bool g)))=>some (g0&&(g==want))
  |_=>none
def qq(P:Program)(c:Cx)(ops:Array Oper):List Oper->S->(AE->S->Prop)->Prop
 |[],s,Q=>Q .normal s
 |o::rest,s,Q=>
  (match o.dst with|some t=>t<s.nt|none=>True)/\
  match o.guard with
  |none=>
   match o.op with
   |.pick x a b=>
    match s.arg x with
    |.d (.k (.bool g))=>s.aI x/\(g=true->s.aI a)/\(g=false->s.aI b)/\qq P c ops rest (s.put o.dst (mu g (s.arg a) (s.arg b))) Q
    |_=>False
   |op=>fN P c s o.dst op (λs'=>qq P c ops rest s' Q) Q
  |some (j,want)=>
   match guardOf ops s j want with
   |none=>False
   |some g=>
    match o.op with
    |.pick x a b=>
     match s.arg x with
     |.d (.k (.bool h))=>(g=true->s.aI x/\(h=true->s.aI a)/\(h=false->s.aI b))/\qq P c ops rest (s.put o.dst (.gd g (mu h (s.arg a) (s.arg b)))) Q
     |_=>False
    |op=>
     match cO c s o.dst op with
     |some (pre,v)=>(g=true->pre)/\qq P c ops rest (s.put o.dst (.gd g v)) Q
     |none=>(g=true->fN P c s o.dst op (λs'=>qq P c ops rest s' Q) Q)/\(g=false->qq P c ops rest (s.put o.dst .any) Q)
end Go.Aft
end
