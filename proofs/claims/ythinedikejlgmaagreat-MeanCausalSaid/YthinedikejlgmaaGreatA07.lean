import Derived.Test.YthinedikejlgmaaGreatA06
set_option linter.all false
section
namespace Go.Aft
section
variable {P:Program} {ty:TypeId->Option aU} {bR:TypeId->Option (List Sc)} {bO:Nat->Kd} {E:tL} {s:S} {a:Act} {w:World} {o:Oper} {r:vo}
def iE(k:Value):List MapEntry->Nat->Option (Nat×Value)
 |[],_=>none
 |e::es,i=>if xd k e.key then some (i,e.val)else iE k es (i+1)
theorem Nl{k:Sc}{a b:Value}(ha:k.has a=true)(hb:k.has b=true)(h:vC a b=true):a=b:=by
 cases k<;>cases a<;>simp[Sc.has]at ha<;>cases b<;>simp[Sc.has]at hb<;>simp[vC]at h
 ·subst ha;subst hb;subst h;rfl
 ·subst h;rfl
 ·subst h;rfl
theorem Kt:∀{ks:List Sc} {xs ys:List Value},cp ks xs=true->cp ks ys=true->allEq xs ys=true->xs=ys
 |[],[],[],_,_,_=>rfl
 |[],_::_,_,h,_,_=>by simp[cp]at h
 |[],[],_::_,_,h,_=>by simp[cp]at h
 |_::_,[],_,h,_,_=>by simp[cp]at h
 |_::_,_::_,[],_,h,_=>by simp[cp]at h
 |k::ks,x::xs,y::ys,h1,h2,h3=>by
  simp[cp]at h1 h2;simp[allEq]at h3;rw[Nl h1.1 h2.1 h3.1,Kt h1.2 h2.2 h3.2]
theorem Sa{kk:KK}{a b:Value}(ha:kk.has a=true)(hb:kk.has b=true)(h:xd a b=true):a=b:=by
 cases kk with
 |sc k=>
  have:∀x,a≠ .agg x:=λx e=>by subst e;cases k<;>simp[KK.has,Sc.has]at ha
  have h':vC a b=true:=by
   cases a<;>first|exact absurd rfl (this _)|exact h
  exact Nl ha hb h'
 |ag ks=>
  cases a<;>simp[KK.has]at ha;cases b<;>simp[KK.has]at hb;simp[xd]at h;rename_i x y;have:=Kt ha hb h;rw[Array.toList_inj.1 this]
theorem Of{k:Sc}{a:Value}(ha:k.has a=true)(n:Nat):Instr.sameBits n a a=true:=by
 cases k<;>cases a<;>simp[Sc.has]at ha<;>cases n<;>simp[Instr.sameBits,MapKept.bytes_beq]
theorem Km{n:Nat}:∀{ks:List Sc} {xs:List Value},cp ks xs=true->((xs.zip xs).all λ(p:Value×Value)=>Instr.sameBits n p.1 p.2)=true
 |[],[],_=>by simp
 |[],_::_,h=>by simp[cp]at h
 |_::_,[],h=>by simp[cp]at h
 |k::ks,x::xs,h=>by
  simp[cp]at h;simp only[List.zip_cons_cons,List.all_cons,Of h.1,Bool.true_and];exact Km h.2
theorem Qk{kk:KK}{a:Value}(ha:kk.has a=true)(n:Nat):Instr.sameBits (n+1) a a=true:=by
 cases kk with
 |sc k=>exact Of ha _
 |ag ks=>
  cases a<;>simp[KK.has]at ha;rename_i xs;have:=Km (n:=n) ha;simp only[Instr.sameBits,beq_self_eq_true,Bool.true_and];exact this
theorem stays{kk:KK}{a:Value}(ha:kk.has a=true)(w:World):(Instr.keyThatStays a a).run P w=.ok a w:=by
 simp[Instr.keyThatStays,Qk ha 9999]
theorem aa0{k:Sc}{a b:Value}(ha:k.has a=true):xd a b=vC a b:=by
 cases k<;>cases a<;>simp[Sc.has]at ha<;>rfl
theorem Ln{k:Sc}{desc:TypeDesc}(hd:(match k,desc with|.int j,.int j'=>j'=j|.str,.string=>True|.bool,.bool=>True|_,_=>False)){a b:Value}(ha:k.has a=true)(hb:k.has b=true):Instr.sameNow desc a b=some (xd a b):=by
 rw[aa0 ha];cases k<;>cases desc<;>simp at hd<;>cases a<;>simp[Sc.has]at ha<;>cases b<;>simp[Sc.has]at hb<;>simp[Instr.sameNow,vC,ha,hb];rw[Bool.eq_iff_iff];simp[MapKept.bytes_beq]
theorem BP{k:Sc}{desc:TypeDesc}(hd:(match k,desc with|.int j,.int j'=>j'=j|.str,.string=>True|.bool,.bool=>True|_,_=>False)){a:Value}(ha:k.has a=true):∀(es:List MapEntry) (i:Nat),(∀e∈es,k.has e.key=true)->Instr.findNow desc a es i=some (iE a es i)
 |[],i,_=>rfl
 |e::es,i,h=>by
  have h1:=Ln hd ha (h e (List.mem_cons_self ..));simp only[Instr.findNow,h1,iE];cases hk:xd a e.key
  ·simp only[Bool.false_eq_true,if_false];exact BP hd ha es (i+1) λx hx=>h x (List.mem_cons_of_mem _ hx)
  ·simp
theorem ul{bR:TypeId->Option (List Sc)}(heq:zf P bR){kt:TypeId}{ks:List Sc}(hk:bR kt=some ks){xs:Array Value}(ha:cp ks xs.toList=true)(w:World):∀(es:List MapEntry) (i:Nat),(∀e∈es,(KK.ag ks).has e.key=true)->
  (Instr.findAsking kt (.agg xs) es i).run P w=.ok (iE (.agg xs) es i) w
 |[],i,_=>by simp[Instr.findAsking,iE]
 |e::es,i,h=>by
  have h1:=h e (List.mem_cons_self ..);have ih:=ul heq hk ha w es (i+1) λx hx=>h x (List.mem_cons_of_mem _ hx)
  cases hek:e.key<;>rw[hek]at h1<;>simp[KK.has]at h1;rename_i ys;have hq:=(heq kt ks hk xs.toList ys.toList w ha h1).1;simp only[Array.toArray_toList]at hq;have hq':(Op.equal kt (.agg xs) (.agg ys)).run P w=.ok (allEq xs.toList ys.toList) w:=hq;simp only[Instr.findAsking,iE,hek,xd];simp only[Sem.run_bind,hq',Result.andThen_ok];cases allEq xs.toList ys.toList
  ·simp only[Bool.false_eq_true,if_false];exact ih
  ·simp
theorem nN(cW:nA P ty)(heq:zf P bR)(Mv:wI P bR){kt:TypeId}{kk:KK}(hkk:gI ty bR kt=some kk){key:Value}(hk:kk.has key=true)(es:List MapEntry)(uj:∀e∈es,kk.has e.key=true)(w:World):
  (Instr.findKey kt key es).run P w=.ok (iE key es 0) w/\∀b,(Instr.checkKey b 10000 kt key).run P w=.ok () w:=by
 unfold gI at hkk;have sc:∀(k:Sc) (desc:TypeDesc),kk=.sc k->P.underlying kt=some desc->(match k,desc with|.int j,.int j'=>j'=j|.str,.string=>True|.bool,.bool=>True|_,_=>False)->
   (Instr.findKey kt key es).run P w=.ok (iE key es 0) w/\∀b,(Instr.checkKey b 10000 kt key).run P w=.ok () w:=by
  intro k desc e1 e2 e3;subst e1;have hf:=BP e3 hk es 0 uj;refine⟨by simp[Instr.findKey,run_underlying e2,hf],λb=>?_⟩
  have hid:MapKept.IsKey desc key:=by
   cases k<;>cases desc<;>simp at e3<;>cases key<;>simp[KK.has,Sc.has]at hk<;>simp[MapKept.IsKey,hk,e3]
  exact MapKept.run_checkKey e2 hid b 9999
 cases hT:ty kt with
 |none=>rw[hT]at hkk;cases hkk
 |some d=>
  obtain⟨desc,h1,h2⟩:=(cW kt d hT).u;obtain⟨k,sz,zero,bt⟩:=d;rw[hT]at hkk;have ag:(bR kt).map KK.ag=some kk->(match desc with|.struct _|.array ..=>True|_=>False)->(Instr.findKey kt key es).run P w=.ok (iE key es 0) w/\∀b,(Instr.checkKey b 10000 kt key).run P w=.ok () w:=by
   intro hm hds;simp only[Option.map_eq_some_iff]at hm;obtain⟨ks,hks,rfl⟩:=hm;cases hkey:key<;>rw[hkey]at hk<;>simp[KK.has]at hk;rename_i xs;have hfa:=ul heq hks hk w es 0 uj;refine⟨?_,λb=>by have:=Mv kt ks hks xs.toList w b hk;simpa using this⟩
   simp only[Instr.findKey,Sem.run_bind,run_underlying h1,Result.andThen_ok];cases es with
   |nil=>simp[Instr.findNow,iE]
   |cons e es=>
    have zw:=uj e (List.mem_cons_self ..);have dK:Instr.sameNow desc (.agg xs) e.key=none:=by cases desc<;>simp at hds<;>simp[Instr.sameNow]
    simp only[Instr.findNow,dK];exact hfa
  cases k<;>simp only[reduceCtorEq,Option.some.injEq]at hkk
  ·rename_i fs;refine ag hkk ?_;cases desc<;>simp[TK.ok]at h2|-
  ·refine ag hkk ?_;cases desc<;>simp[TK.ok]at h2|-
  ·cases desc<;>simp only[TK.ok]at h2;exact sc .str _ hkk.symm h1 trivial
  ·cases desc<;>simp only[TK.ok]at h2;exact sc (.int _) _ hkk.symm h1 h2
  ·cases desc<;>simp only[TK.ok]at h2;exact sc .bool _ hkk.symm h1 trivial
theorem zC{G:Gh}{nx:Nat}{k:Value}:∀(es:List (Value×LV)) (xs:List MapEntry) (i:Nat),xs.map (·.key)=es.map (·.1)->bH G nx ix (es.map (·.2)) (xs.map (·.val))->
  (bD k es=none/\iE k xs i=none)\/ ∃j e v,bD k es=some v/\iE k xs i=some (i+j,e.val)/\xs[j]?=some e/\xd k e.key=true/\LR G nx ix v e.val
 |[],xs,i,h1,h2=>by
  have:xs=[]:=by cases xs;rfl;simp at h1
  subst this;exact .inl ⟨rfl,rfl⟩
 |e::es,xs,i,h1,h2=>by
  cases xs with
  |nil=>simp at h1
  |cons x xs=>
   simp at h1;simp only[List.map_cons]at h2;unfold bH at h2;obtain⟨v,r,e1,h3,h4⟩:=h2;simp at e1;obtain⟨rfl,rfl⟩:=e1;simp only[bD,iE,h1.1];cases hk:xd k e.1
   ·simp only[Bool.false_eq_true,if_false];rcases zC (k:=k) es xs (i+1) h1.2 h4 with⟨q1,q2⟩|⟨j,e',v,q1,q2,q3,q4,q5⟩
    ·exact .inl ⟨q1,q2⟩
    ·exact .inr ⟨j+1,e',v,q1,by rw[q2];congr 2;omega,by simpa using q3,q4,q5⟩
   ·simp only[if_true];exact .inr ⟨0,x,e.2,rfl,by simp,rfl,by rw[h1.1];exact hk,h3⟩
theorem rZ{kk:KK}{es:List (Value×LV)}{xs:List MapEntry}(h:xs.map (·.key)=es.map (·.1))(ha:es.all (λe=>kk.has e.1)=true):∀e∈xs,kk.has e.key=true:=by
 intro e he;have:e.key∈es.map (·.1):=by rw[<-h];exact List.mem_map.2 ⟨e,he,rfl⟩
 obtain⟨p,hp,hpe⟩:=List.mem_map.1 this;rw[<-hpe];exact List.all_eq_true.1 ha p hp
theorem FW{G:Gh}{nx:Nat}{lm:Nat->Option Nat}{x:LV}{v k:Value}(h:LR G nx lm x v)(hk:keyOf x=some k):v=k:=by
 unfold keyOf at hk
 split at hk
 ·cases hk;unfold LR DR at h;exact h.1
 ·simp only[Option.map_eq_some_iff]at hk;obtain⟨vs,h1,rfl⟩:=hk;unfold LR at h;obtain⟨us,rfl,h2⟩:=h;rw[mY h1 h2]
 ·cases hk
theorem mz{e:TypeId}{ed:aU}(gN:ed.ok P e){z:LV}(hz:lG ed=some z)(w:World):∃zv,(zeroValue e).run P w=.ok zv w/\∀G nx lm,LR G nx lm z zv:=by
 obtain⟨i,zv,h1,h2,h3,h4,_⟩:=gN.i;refine⟨zv,by simp[zeroValue,typeInfo,h1,h3],λG nx lm=>?_⟩
 unfold lG dz at hz;by_cases ha:ed.k.isAgg=true
 ·rw[if_pos ha]at hz
  split at hz
  ·cases hz;have lY:=gN.ag zv (by rw[h1];simp[h3])
   rw[if_pos ha]at lY;obtain⟨cs,rfl⟩:=lY;have hl:(ed.zero.map kz).take ed.sz=ed.zero.map kz:=List.take_of_length_le (by simp[gN.len])
   rw[hl];unfold LR;exact⟨ed.zero,by rw[<-h4];simp[Value.cells],w9 gN.one⟩
  ·cases hz
 ·rw[if_neg ha]at hz;cases hzz:ed.zero with
  |nil=>rw[hzz]at hz;simp at hz
  |cons u us=>
   rw[hzz]at hz;simp at hz;subst hz;have hu:u.oneCell'=true:=gN.one u (by rw[hzz];exact List.mem_cons_self ..)
   have lY:=gN.ag zv (by rw[h1];simp[h3])
   rw[if_neg ha]at lY;have:zv=u:=by
    rw[hzz,DI lY]at h4;simp at h4;exact h4.1
   rw[this];exact yw hu
theorem nJ{G:Gh}{lm:Nat->Option Nat}{L:Nat->Option (List LV)}{H:GH}(hM:MR G lm L H w){n:Nat}{es:List (Value×LV)}(hn:H.obj n=some (.map es)):
  n<H.next/\G.own (G.nm n)=.nm n/\∃xs clock,w.heap[G.nm n]?=some (.map xs.toArray clock)/\KM G H.next es xs clock:=by
 obtain⟨h1,h2,xs,c,h3,h4⟩:=hM.iC n _ hn;exact⟨h1,h2,xs,c,h3,h4⟩
theorem Pa(cW:nA P ty)(heq:zf P bR)(Mv:wI P bR){T kt et:TypeId}{d ed:aU}{m k:Operand}{ok:Bool}{kk:KK}{z:LV}{key:Value}{n:Nat}{es:List (Value×LV)}(ho:o.op=.lookup T m k ok)(hok:d.ok P T)(hk:d.k=.map kt et)(hkk:gI ty bR kt=some kk)
  (gN:ed.ok P et) (hz:lG ed=some z) (hkey:keyOf (s.arg k)=some key) (hm:s.arg m=.gm n) (hn:s.H.obj n=some (.map es)) (hp:s.aI m) (hq:s.aI k) (h1:kk.has key=true) (h2:es.all (λe=>kk.has e.1)=true)
  (hs:cF E s a w) (aN:∀t,o.dst=some t->t<s.nt) (pre:Prop):bT P E s o a w ⟨pre,if ok then .dh [(bD key es).getD z,.d (.k (.bool (bD key es).isSome))]else(bD key es).getD z,.no⟩:=
 bT.pure hs aN λG lm hM aK=>by
  have Da:=aW aK m hp;rw[hm]at Da;unfold LR at Da;have hkv:=FW (aW aK k hq) hkey;obtain⟨desc,g1,g2⟩:=hok.u;rw[hk]at g2;cases desc<;>simp only[TK.ok]at g2;obtain⟨rfl,rfl⟩:=g2;obtain⟨_,hown,xs,c,hb,hR⟩:=nJ hM hn;obtain⟨hf,PM⟩:=nN cW heq Mv hkk h1 xs (rZ hR.1 h2) w;obtain⟨zv,tG,qD⟩:=mz gN hz w;have dL:(getObj (G.nm n)).run P w=.ok (.map xs.toArray c) w:=MapKept.run_getObj_map hb;have hres:∃v',LR G s.H.next lm ((bD key es).getD z) v'/\(execOp a.eval o).run P w=.ok (.value (if ok then .tuple #[v',.bool (bD key es).isSome]else v')) w:=by
   rcases zC (k:=key) es xs 0 hR.1 hR.2.1 with⟨q1,q2⟩|⟨j,e,v,q1,q2,q3,q4,q5⟩
   ·refine⟨zv,by rw[q1];exact qD _ _ _,?_⟩
    rw[q2]at hf;simp[execOp,ho,Instr.lookup,run_underlying g1,Da.2,dL,hkv,PM,hf,tG,q1]
   ·refine⟨e.val,by rw[q1];exact bF (Nat.le_refl _) (Gh.le_refl _ _) (λ_ _ e=>by cases e) _ _ q5,?_⟩
    rw[q2]at hf;simp[execOp,ho,Instr.lookup,run_underlying g1,Da.2,dL,hkv,PM,hf,q1]
  obtain⟨v',r1,r2⟩:=hres;refine⟨_,r2,?_⟩;cases ok
  ·exact r1
  ·simp only[if_true];unfold LR;exact⟨[v',.bool (bD key es).isSome],rfl,by unfold bH;exact⟨_,_,rfl,r1,by unfold bH;exact⟨_,_,rfl,by unfold LR DR;exact⟨rfl,rfl⟩,by simp[bH]⟩⟩⟩
theorem FF(cW:nA P ty)(heq:zf P bR)(Mv:wI P bR){T kt et:TypeId}{d ed:aU}{m k:Operand}{ok:Bool}{kk:KK}{z:LV}{key:Value}(ho:o.op=.lookup T m k ok)(hok:d.ok P T)(hk:d.k=.map kt et)(hkk:gI ty bR kt=some kk)
  (gN:ed.ok P et) (hz:lG ed=some z) (hkey:keyOf (s.arg k)=some key) (hm:s.arg m=.d (.k (.map none))) (hp:s.aI m) (hq:s.aI k) (h1:kk.has key=true)
  (hs:cF E s a w) (aN:∀t,o.dst=some t->t<s.nt) (pre:Prop):bT P E s o a w ⟨pre,if ok then .dh [z,.d (.k (.bool false))]else z,.no⟩:=
 bT.pure hs aN λG lm hM aK=>by
  have Da:=aW aK m hp;rw[hm]at Da;unfold LR DR at Da;have hkv:=FW (aW aK k hq) hkey;obtain⟨desc,g1,g2⟩:=hok.u;rw[hk]at g2;cases desc<;>simp only[TK.ok]at g2;obtain⟨rfl,rfl⟩:=g2;obtain⟨hf,PM⟩:=nN cW heq Mv hkk h1 [] (by simp) w
  obtain⟨zv,tG,qD⟩:=mz gN hz w;refine⟨if ok then .tuple #[zv,.bool false]else zv,by simp[execOp,ho,Instr.lookup,run_underlying g1,Da.1,hkv,PM,hf,tG,iE],?_⟩
  cases ok
  ·exact qD _ _ _
  ·simp only[if_true];unfold LR;exact⟨[zv,.bool false],rfl,by unfold bH;exact⟨_,_,rfl,qD _ _ _,by unfold bH;exact⟨_,_,rfl,by unfold LR DR;exact⟨rfl,rfl⟩,by simp[bH]⟩⟩⟩
theorem FE{G:Gh}{nx:Nat}{k:Value}{v:LV}{vv:Value}(hv:LR G nx ix v vv):∀(es:List (Value×LV)) (xs:List MapEntry),xs.map (·.key)=es.map (·.1)->bH G nx ix (es.map (·.2)) (xs.map (·.val))->
  (∀(born:Nat),bD k es=none->(xs++[(⟨k,vv,born⟩:MapEntry)]).map (·.key)=(cr k v es).map (·.1)/\bH G nx ix ((cr k v es).map (·.2)) ((xs++[(⟨k,vv,born⟩:MapEntry)]).map (·.val)))/\
  (∀(i j:Nat) (u:Value),iE k xs i=some (i+j,u)->(xs.modify j λe=>{e with key:=k,val:=vv}).map (·.key)=(cr k v es).map (·.1)/\bH G nx ix ((cr k v es).map (·.2)) ((xs.modify j λe=>{e with key:=k,val:=vv}).map (·.val)))
 |[],xs,h1,h2=>by
  have:xs=[]:=by cases xs;rfl;simp at h1
  subst this;refine⟨λborn _=>⟨by simp[cr],?_⟩,λi j u h=>by simp[iE]at h⟩
  simp only[cr,List.map_cons,List.map_nil,List.nil_append];unfold bH;exact⟨_,_,rfl,hv,by simp[bH]⟩
 |e::es,xs,h1,h2=>by
  cases xs with
  |nil=>simp at h1
  |cons x xs=>
   simp at h1;simp only[List.map_cons]at h2;unfold bH at h2;obtain⟨v0,r,e1,h3,h4⟩:=h2;simp at e1;obtain⟨rfl,rfl⟩:=e1;have ih:=FE (k:=k) hv es xs h1.2 h4;simp only[bD,iE,cr,h1.1];cases hk:xd k e.1
   ·simp only[Bool.false_eq_true,if_false];refine⟨λborn hn=>?_,λi j u hj=>?_⟩
    ·have:=ih.1 born hn;simp only[List.cons_append,List.map_cons];exact⟨by rw[this.1,h1.1],by unfold bH;exact⟨_,_,rfl,h3,this.2⟩⟩
    ·have hj':∃j',j=j'+1:=by
      cases j with
      |zero=>
       exfalso;have:∀(l:List MapEntry) (i:Nat) (p:Nat×Value),iE k l i=some p->i<=p.1:=by
        intro l
        induction l with
        |nil=>intro i p h;simp[iE]at h
        |cons y l ih=>
         intro i p h;simp only[iE]at h;split at h
         ·cases h;exact Nat.le_refl _
         ·have:=ih _ _ h;omega
       have:=this _ _ _ hj;simp at this;omega
      |succ j=>exact⟨j,rfl⟩
     obtain⟨j',rfl⟩:=hj';have:=ih.2 (i+1) j' u (by rw[hj];congr 2;omega)
     simp only[List.modify_succ_cons,List.map_cons];exact⟨by rw[this.1,h1.1],by unfold bH;exact⟨_,_,rfl,h3,this.2⟩⟩
   ·simp only[if_true];refine⟨(λborn hn=>by cases hn),λi j u hj=>?_⟩
    simp at hj;obtain⟨rfl,_⟩:=hj;simp only[List.modify_zero_cons,List.map_cons];exact⟨by rw[h1.2],by unfold bH;exact⟨_,_,rfl,hv,h4⟩⟩
theorem vK(cW:nA P ty)(heq:zf P bR)(Mv:wI P bR){T kt et:TypeId}{d:aU}{m k v:Operand}{kk:KK}{key:Value}{n:Nat}{es:List (Value×LV)}(ho:o.op=.mapUpdate T m k v\/ o.op=.insert T m k v)(hok:d.ok P T)(hk:d.k=.map kt et)(hkk:gI ty bR kt=some kk)
  (hkey:keyOf (s.arg k)=some key) (hm:s.arg m=.gm n) (hn:s.H.obj n=some (.map es)) (hp:s.aI m) (hq:s.aI k) (hr:s.aI v) (h1:kk.has key=true) (h2:es.all (λe=>kk.has e.1)=true) (hnb:(s.arg v).nb s.H.next)
  (hs:cF E s a w) (aN:∀t,o.dst=some t->t<s.nt) (pre:Prop):bT P E s o a w ⟨pre,.any,.dV n (.map (cr key (s.arg v) es))⟩:=by
 obtain⟨e1,G,lm,e2,hM,hx,aK,_⟩:=hs;have Da:=aW aK m hp;rw[hm]at Da;unfold LR at Da;have hkv:=FW (aW aK k hq) hkey;have hvv:=jO _ _ (aW aK v hr) hnb;obtain⟨desc,g1,g2⟩:=hok.u;rw[hk]at g2;cases desc<;>simp only[TK.ok]at g2;obtain⟨rfl,rfl⟩:=g2;obtain⟨hlt,hown,xs,c,hb,hR⟩:=nJ hM hn;obtain⟨hf,PM⟩:=nN cW heq Mv hkk h1 xs (rZ hR.1 h2) w;have dL:(getObj (G.nm n)).run P w=.ok (.map xs.toArray c) w:=MapKept.run_getObj_map hb;have fE:∀ob:Array MapEntry×Nat,(setObj (G.nm n) (.map ob.1 ob.2)).run P w=.ok () (eU w (G.nm n) (.map ob.1 ob.2)):=λob=>MapKept.run_setObj_map _ hb
 have hput:=FE (k:=key) hvv es xs hR.1 hR.2.1;have xm:=eN hb;have fin:∀(xs':List MapEntry) (c':Nat),(execOp a.eval o).run P w=.ok .skip (eU w (G.nm n) (.map xs'.toArray c'))->KM G s.H.next (cr key (s.arg v) es) xs' c'->bT P E s o a w ⟨pre,.any,.dV n (.map (cr key (s.arg v) es))⟩:=by
  intro xs' c' hrun YU;have zu:=hM.dV n hn (.map (cr key (s.arg v) es)) (.map xs'.toArray c') hown (by simp) (by simp) ⟨hown,xs',c',by rw[ew,if_pos ⟨rfl,xm⟩],YU⟩
  exact⟨.skip,undef,_,hrun,.inr ⟨rfl,rfl⟩,cF.mk' (L':=s.L) (H':=s.H.set n (.map (cr key (s.arg v) es))) e1 e2 zu (hx.dV hM n _ _ hown) aK (by simp[LR]) aN⟩
 have YQ:∀w',(Instr.mapUpdate T (.map (some (G.nm n))) key (a.eval v)).run P w=.ok () w'->(execOp a.eval o).run P w=.ok .skip w':=λw' h=>by
  rcases ho with ho|ho<;>simp[execOp,ho,Da.2,hkv,h]
 rcases zC (k:=key) es xs 0 hR.1 hR.2.1 with⟨q1,q2⟩|⟨j,e,v0,q1,q2,q3,q4,q5⟩
 ·rw[q2]at hf;have:=hput.1 c q1;refine fin (xs++[(⟨key,a.eval v,c⟩:MapEntry)]) (c+1) (YQ _ ?_) ⟨this.1,this.2,?_,by simp[hR.2.2.2]⟩
  ·have:=fE ((xs++[(⟨key,a.eval v,c⟩:MapEntry)]).toArray,c+1);simp only at this;simp[Instr.mapUpdate,run_underlying g1,dL,PM,hf];simpa using this
  ·simp[hR.2.2.1,hR.2.2.2,List.range_succ]
 ·rw[q2]at hf;have:=hput.2 0 j e.val q2;have hke:e.key=key:=by
   have hmem:e∈xs:=List.mem_of_getElem? q3;exact(Sa h1 (rZ hR.1 h2 e hmem) q4).symm
  have hst:=stays h1 w (P:=P);have MC:(xs.modify j λe=>{e with key:=key,val:=a.eval v}).map (·.born)=xs.map (·.born):=by
   apply List.ext_getElem?;intro i;simp only[List.getElem?_map,List.getElem?_modify];cases xs[i]? <;>simp
   split<;>rfl
  refine fin (xs.modify j λe=>{e with key:=key,val:=a.eval v}) c (YQ _ ?_) ⟨this.1,this.2,by rw[MC,hR.2.2.1];simp,by simp[hR.2.2.2]⟩
  ·have:=fE ((xs.modify j λe=>{e with key:=key,val:=a.eval v}).toArray,c)
   simp only at this;simp[Instr.mapUpdate,run_underlying g1,dL,PM,hf,q3,hke,hst];exact this
theorem DS{k:Value}:∀(es:List (Value×LV)) (xs:List MapEntry) (i:Nat),xs.map (·.key)=es.map (·.1)->
  (∀v,bD k es=some v->∃u,iE k xs i=some (i+pY k es,u))/\(bD k es=none->pY k es=es.length)
 |[],xs,i,h=>⟨λv q=>by simp[bD]at q,λ_=>rfl⟩
 |e::es,xs,i,h=>by
  cases xs with
  |nil=>simp at h
  |cons x xs=>
   simp at h;have ih:=DS (k:=k) es xs (i+1) h.2;simp only[bD,iE,pY,h.1];cases hk:xd k e.1
   ·simp only[Bool.false_eq_true,if_false,List.length_cons];refine⟨λv q=>?_,λq=>by rw[ih.2 q]⟩
    obtain⟨u,hu⟩:=ih.1 v q;exact⟨u,by rw[hu];congr 2;omega⟩
   ·simp only[if_true];exact⟨λv _=>⟨x.val,by simp⟩,λq=>by cases q⟩
theorem DO{k:Value}{u v:LV}:∀es:List (Value×LV),y7 (pY k es) v (cr k u es)=cr k v es
 |[]=>rfl
 |e::es=>by
  have ih:=DO (k:=k) (u:=u) (v:=v) es;simp only[pY,cr];cases hk:xd k e.1
  ·simp only[Bool.false_eq_true,if_false];unfold y7 at ih|-;rw[List.modify_succ_cons,ih]
  ·simp only[if_true];rfl
theorem Nz{k:Value}{u:LV}:∀es:List (Value×LV),pY k es<(cr k u es).length
 |[]=>by simp[pY,cr]
 |e::es=>by
  have ih:=Nz (k:=k) (u:=u) es;simp only[pY,cr];cases hk:xd k e.1
  ·simp only[Bool.false_eq_true,if_false,List.length_cons];omega
  ·simp
theorem It(cW:nA P ty)(heq:zf P bR)(Mv:wI P bR){T kt et:TypeId}{d ed:aU}{m k:Operand}{kk:KK}{z:LV}{key:Value}{n:Nat}{es:List (Value×LV)}(ho:o.op=.mapEntry T m k)(hok:d.ok P T)(hk:d.k=.map kt et)(hkk:gI ty bR kt=some kk)
  (gN:ed.ok P et) (hz:lG ed=some z) (hkey:keyOf (s.arg k)=some key) (hm:s.arg m=.gm n) (hn:s.H.obj n=some (.map es)) (hp:s.aI m) (hq:s.aI k) (h1:kk.has key=true) (h2:es.all (λe=>kk.has e.1)=true)
  (hs:cF E s a w) (aN:∀t,o.dst=some t->t<s.nt) (pre:Prop):bT P E s o a w ⟨pre,.dh [(bD key es).getD z,.d (.k (.int .i64 (pY key es)))],.dV n (.map (cr key ((bD key es).getD z) es))⟩:=by
 obtain⟨e1,G,lm,e2,hM,hx,aK,_⟩:=hs;have Da:=aW aK m hp;rw[hm]at Da;unfold LR at Da;have hkv:=FW (aW aK k hq) hkey;obtain⟨desc,g1,g2⟩:=hok.u;rw[hk]at g2;cases desc<;>simp only[TK.ok]at g2;obtain⟨rfl,rfl⟩:=g2;obtain⟨hlt,hown,xs,c,hb,hR⟩:=nJ hM hn;obtain⟨hf,PM⟩:=nN cW heq Mv hkk h1 xs (rZ hR.1 h2) w;obtain⟨zv,tG,qD⟩:=mz gN hz w;have dL:(getObj (G.nm n)).run P w=.ok (.map xs.toArray c) w:=MapKept.run_getObj_map hb;have fE:∀ob:Array MapEntry×Nat,(setObj (G.nm n) (.map ob.1 ob.2)).run P w=.ok () (eU w (G.nm n) (.map ob.1 ob.2)):=λob=>MapKept.run_setObj_map _ hb
 have xm:=eN hb;have F6:=DS (k:=key) es xs 0 hR.1;have fin:∀(xs':List MapEntry) (c':Nat) (u:Value),(execOp a.eval o).run P w=.ok (.value (.tuple #[u,.int .i64 (pY key es)])) (eU w (G.nm n) (.map xs'.toArray c'))->LR G s.H.next ix ((bD key es).getD z) u->KM G s.H.next (cr key ((bD key es).getD z) es) xs' c'->
   bT P E s o a w ⟨pre,.dh [(bD key es).getD z,.d (.k (.int .i64 (pY key es)))],.dV n (.map (cr key ((bD key es).getD z) es))⟩:=by
  intro xs' c' u hrun hu YU;have zu:=hM.dV n hn (.map (cr key ((bD key es).getD z) es)) (.map xs'.toArray c') hown (by simp) (by simp) ⟨hown,xs',c',by rw[ew,if_pos ⟨rfl,xm⟩],YU⟩
  refine⟨.value (.tuple #[u,.int .i64 (pY key es)]),_,_,hrun,.inl rfl,cF.mk' (L':=s.L) (H':=s.H.set n (.map (cr key ((bD key es).getD z) es))) e1 e2 zu (hx.dV hM n _ _ hown) aK ?_ aN⟩;unfold LR bH bH bH;exact⟨[u,.int .i64 (pY key es)],rfl,_,_,rfl,bF (Nat.le_refl _) (Gh.le_refl _ _) (λ_ _ e=>by cases e) _ _ hu,_,_,rfl,by unfold LR DR;exact⟨rfl,rfl⟩,rfl⟩
 rcases zC (k:=key) es xs 0 hR.1 hR.2.1 with⟨q1,q2⟩|⟨j,e,v0,q1,q2,q3,q4,q5⟩
 ·rw[q2]at hf;have hput:=(FE (k:=key) (qD G s.H.next ix) es xs hR.1 hR.2.1).1 c q1;have hmc:pY key es=c:=by
   rw[F6.2 q1,hR.2.2.2];have:=congrArg List.length hR.1;simpa using this.symm
  rw[q1]at fin|-;simp only[Option.getD_none]at fin|-;refine fin (xs++[(⟨key,zv,c⟩:MapEntry)]) (c+1) zv ?_ (qD _ _ _) ⟨hput.1,hput.2,?_,by simp[hR.2.2.2]⟩
  ·have:=fE ((xs++[(⟨key,zv,c⟩:MapEntry)]).toArray,c+1);simp only at this;simp[execOp,ho,Da.2,hkv,Instr.mapEntry,run_underlying g1,dL,PM,hf,tG,goInt,hmc];rw[this];rfl
  ·simp[hR.2.2.1,hR.2.2.2,List.range_succ]
 ·rw[q2]at hf;have hput:=(FE (k:=key) q5 es xs hR.1 hR.2.1).2 0 j e.val q2;have hmem:e∈xs:=List.mem_of_getElem? q3;have hke:e.key=key:=(Sa h1 (rZ hR.1 h2 e hmem) q4).symm;have hst:=stays h1 w (P:=P);have hmj:pY key es=j:=by
   obtain⟨u,hu⟩:=F6.1 v0 q1;rw[q2]at hu;simp only[Option.some.injEq,Prod.mk.injEq]at hu;omega
  have hbj:e.born=j:=by
   have:=congrArg (λl=>l[j]?) hR.2.2.1
   have hjl:=(List.getElem?_eq_some_iff.1 q3).1;simp only[List.getElem?_map,q3,Option.map_some,List.getElem?_range hjl]at this;exact Option.some.inj this
  rw[q1]at fin|-;simp only[Option.getD_some]at fin|-;have hsame:(xs.modify j λe'=>{e' with key:=key,val:=e.val})=xs.modify j λe'=>{e' with key:=key}:=by
   apply List.ext_getElem?;intro i;simp only[List.getElem?_modify];by_cases hi:j=i
   ·subst hi;simp[q3]
   ·simp[hi]
  have MC:(xs.modify j λe'=>{e' with key:=key,val:=e.val}).map (·.born)=xs.map (·.born):=by
   apply List.ext_getElem?;intro i;simp only[List.getElem?_map,List.getElem?_modify];cases xs[i]? <;>simp
   split<;>rfl
  refine fin (xs.modify j λe'=>{e' with key:=key,val:=e.val}) c e.val ?_ q5 ⟨hput.1,hput.2,by rw[MC,hR.2.2.1];simp,by simp[hR.2.2.2]⟩
  have:=fE ((xs.modify j λe'=>{e' with key:=key,val:=e.val}).toArray,c)
  simp only at this;rw[hsame]at this|-;simp[execOp,ho,Da.2,hkv,Instr.mapEntry,run_underlying g1,dL,PM,hf,q3,hke,hst,goInt,hmj,hbj];rw[this];rfl
theorem Cw{G:Gh}{nx:Nat}{lm:Nat->Option Nat}{v:LV}{u:Value}(h:LR G nx lm v u):∀(j:Nat) (l:List LV) (vs:List Value),bH G nx lm l vs->bH G nx lm (l.modify j λ_=>v) (vs.modify j λ_=>u)
 |_,[],vs,hl=>by unfold bH at hl;subst hl;simp[bH]
 |0,x::l,vs,hl=>by
  unfold bH at hl;obtain⟨y,r,rfl,h1,h2⟩:=hl;simp only[List.modify_zero_cons];unfold bH;exact⟨_,_,rfl,h,h2⟩
 |j+1,x::l,vs,hl=>by
  unfold bH at hl;obtain⟨y,r,rfl,h1,h2⟩:=hl;simp only[List.modify_succ_cons];unfold bH;exact⟨_,_,rfl,h1,Cw h j l r h2⟩
theorem CW{T:TypeId}{m t v:Operand}{n:Nat}{kd:IntKind}{j:Int}{es:List (Value×LV)}(ho:o.op=.entryStore T m t v)(hm:s.arg m=.gm n)(ht:s.arg t=.d (.k (.int kd j)))(hn:s.H.obj n=some (.map es))(hp:s.aI m)(hq:s.aI t)(hr:s.aI v)(h0:0<=j)(h1:j<es.length)
  (hnb:(s.arg v).nb s.H.next) (hs:cF E s a w) (aN:∀t,o.dst=some t->t<s.nt) (pre:Prop):bT P E s o a w ⟨pre,.any,.dV n (.map (y7 j.toNat (s.arg v) es))⟩:=by
 obtain⟨e1,G,lm,e2,hM,hx,aK,_⟩:=hs;have Da:=aW aK m hp;rw[hm]at Da;unfold LR at Da;have htv:=aW aK t hq;rw[ht]at htv;unfold LR DR at htv;have hvv:=jO _ _ (aW aK v hr) hnb;obtain⟨hlt,hown,xs,c,hb,hR⟩:=nJ hM hn;have hl:xs.length=es.length:=by have:=congrArg List.length hR.1;simpa using this
 have dL:(getObj (G.nm n)).run P w=.ok (.map xs.toArray c) w:=MapKept.run_getObj_map hb;have xm:=eN hb;obtain⟨i,rfl⟩:∃i:Nat,j=(i:Int):=⟨j.toNat,by omega⟩
 have hi:i<xs.length:=by omega
 have Ek:∀(q:Nat) (h:q<xs.length),xs[q].born=q:=λq h=>by
  have:=congrArg (λl=>l[q]?) hR.2.2.1
  simp only[List.getElem?_map,List.getElem?_eq_getElem h,Option.map_some,List.getElem?_range h]at this;exact Option.some.inj this
 have hidx:xs.toArray.findIdx? (λe=>((e.born:Nat):Int)==(i:Int))=some i:=by
  rw[List.findIdx?_toArray,List.findIdx?_eq_some_iff_getElem];refine⟨hi,by simp[Ek i hi],λq hq=>?_⟩
  simp only[Ek q (by omega)]
  simp;omega
 have fE:(setObj (G.nm n) (.map (xs.modify i λe=>{e with val:=a.eval v}).toArray c)).run P w=.ok () (eU w (G.nm n) (.map (xs.modify i λe=>{e with val:=a.eval v}).toArray c)):=MapKept.run_setObj_map _ hb
 have hrun:(execOp a.eval o).run P w=.ok .skip (eU w (G.nm n) (.map (xs.modify i λe=>{e with val:=a.eval v}).toArray c)):=by
  simp[execOp,ho,Da.2,htv.1,Instr.entryStore,dL,asInt,asIntOf,hidx,fE]
 have YU:KM G s.H.next (y7 i (s.arg v) es) (xs.modify i λe=>{e with val:=a.eval v}) c:=by
  refine⟨?_,?_,?_,by rw[List.length_modify];exact hR.2.2.2⟩
  ·have a1:(xs.modify i λe=>{e with val:=a.eval v}).map (·.key)=xs.map (·.key):=by
    apply List.ext_getElem?;intro q;simp only[List.getElem?_map,List.getElem?_modify];cases xs[q]? <;>simp
    split<;>rfl
   have a2:(y7 i (s.arg v) es).map (·.1)=es.map (·.1):=by
    apply List.ext_getElem?;intro q;simp only[y7,List.getElem?_map,List.getElem?_modify];cases es[q]? <;>simp
    split<;>rfl
   rw[a1,a2,hR.1]
  ·have a1:(xs.modify i λe=>{e with val:=a.eval v}).map (·.val)=(xs.map (·.val)).modify i λ_=>a.eval v:=by
    apply List.ext_getElem?;intro q;simp only[List.getElem?_map,List.getElem?_modify];cases xs[q]? <;>simp
    split<;>rfl
   have a2:(y7 i (s.arg v) es).map (·.2)=(es.map (·.2)).modify i λ_=>s.arg v:=by
    apply List.ext_getElem?;intro q;simp only[y7,List.getElem?_map,List.getElem?_modify];cases es[q]? <;>simp
    split<;>rfl
   rw[a1,a2];exact Cw hvv i _ _ hR.2.1
  ·have a1:(xs.modify i λe=>{e with val:=a.eval v}).map (·.born)=xs.map (·.born):=by
    apply List.ext_getElem?;intro q;simp only[List.getElem?_map,List.getElem?_modify];cases xs[q]? <;>simp
    split<;>rfl
   rw[a1,hR.2.2.1,List.length_modify]
 have zu:=hM.dV n hn (.map (y7 i (s.arg v) es)) (.map (xs.modify i λe=>{e with val:=a.eval v}).toArray c) hown (by simp) (by simp) ⟨hown,_,c,by rw[ew,if_pos ⟨rfl,xm⟩],YU⟩
 exact⟨.skip,undef,_,hrun,.inr ⟨rfl,rfl⟩,cF.mk' (L':=s.L) (H':=s.H.set n (.map (y7 i (s.arg v) es))) e1 e2 zu (hx.dV hM n _ _ hown) aK (by simp[LR]) aN⟩
theorem R7{G:Gh}{nx:Nat}{lm:Nat->Option Nat}:∀vs:List Value,vs.all Value.oneCell'=true->bH G nx lm (vs.map kz) vs
 |[],_=>by simp[bH]
 |v::vs,h=>by
  simp only[List.all_cons,Bool.and_eq_true]at h;simp only[List.map_cons];unfold bH;exact⟨v,vs,rfl,yw h.1,R7 vs h.2⟩
theorem Ra{r:vo}{x:Operand}{xT aT:TypeId}(cW:nA P ty)(ho:o.op=.typeAssert x xT aT true)(h:Dq ty s x aT=some r)(hp:r.pre)(hs:cF E s a w)(aN:∀t,o.dst=some t->t<s.nt):bT P E s o a w r:=by
 unfold Dq at h
 split at h
 ·cases h
 ·rename_i d t v hne hT hx;obtain⟨desc,g1,g2⟩:=(cW aT d hT).u;have hn:∀ms,desc≠ .interface ms:=λms e=>by
   subst e;obtain⟨k,sz,zero,bt⟩:=d;cases k<;>simp only[TK.ok]at g2;exact hne _ _ _ _ rfl
  split at h
  ·rename_i e;subst e
   split at h
   ·rename_i vs
    split at h
    ·rename_i hall;cases h;refine bT.pure hs aN λG lm hM aK=>?_
     have hv:=aW aK x hp;rw[hx]at hv;unfold LR DR at hv;refine⟨.tuple #[.agg vs,.bool true],?_,?_⟩
     ·cases desc<;>first|exact absurd rfl (hn _)|simp[execOp,ho,Instr.typeAssert,run_underlying g1,hv.1]
     ·unfold LR bH bH bH;exact⟨_,rfl,_,_,rfl,by unfold LR;exact⟨vs.toList,by simp,R7 _ hall⟩,_,_,rfl,by unfold LR DR;exact⟨rfl,rfl⟩,rfl⟩
    ·cases h
   ·split at h
    ·rename_i v' hna hall;cases h;refine bT.pure hs aN λG lm hM aK=>?_
     have hv:=aW aK x hp;rw[hx]at hv;unfold LR DR at hv;refine⟨.tuple #[v,.bool true],?_,?_⟩
     ·cases desc<;>first|exact absurd rfl (hn _)|simp[execOp,ho,Instr.typeAssert,run_underlying g1,hv.1]
     ·unfold LR bH bH bH;exact⟨_,rfl,_,_,rfl,by unfold LR DR;exact⟨rfl,hall⟩,_,_,rfl,by unfold LR DR;exact⟨rfl,rfl⟩,rfl⟩
    ·cases h
  ·rename_i hte;simp only[Option.map_eq_some_iff]at h;obtain⟨z,hz,rfl⟩:=h;refine bT.pure hs aN λG lm hM aK=>?_
   have hv:=aW aK x hp;rw[hx]at hv;unfold LR DR at hv;obtain⟨zv,tG,qD⟩:=mz (cW aT d hT) hz w;refine⟨.tuple #[zv,.bool false],?_,?_⟩
   ·cases desc<;>first|exact absurd rfl (hn _)|simp[execOp,ho,Instr.typeAssert,run_underlying g1,hv.1,hte,tG]
   ·unfold LR bH bH bH;exact⟨_,rfl,_,_,rfl,qD _ _ _,_,_,rfl,by unfold LR DR;exact⟨rfl,rfl⟩,rfl⟩
 ·rename_i d hne hT hx;obtain⟨desc,g1,g2⟩:=(cW aT d hT).u;have hn:∀ms,desc≠ .interface ms:=λms e=>by
   subst e;obtain⟨k,sz,zero,bt⟩:=d;cases k<;>simp only[TK.ok]at g2;exact hne _ _ _ _ rfl
  simp only[Option.map_eq_some_iff]at h;obtain⟨z,hz,rfl⟩:=h;refine bT.pure hs aN λG lm hM aK=>?_
  have hv:=aW aK x hp;rw[hx]at hv;unfold LR DR at hv;obtain⟨zv,tG,qD⟩:=mz (cW aT d hT) hz w;refine⟨.tuple #[zv,.bool false],?_,?_⟩
  ·cases desc<;>first|exact absurd rfl (hn _)|simp[execOp,ho,Instr.typeAssert,run_underlying g1,hv.1,tG]
  ·unfold LR bH bH bH;exact⟨_,rfl,_,_,rfl,qD _ _ _,_,_,rfl,by unfold LR DR;exact⟨rfl,rfl⟩,rfl⟩
 ·cases h
theorem oP(cW:nA P ty)(heq:zf P bR)(Mv:wI P bR)(h:bV ty bR bO s o.dst o.op=some r)(hp:r.pre)(hs:cF E s a w)(aN:∀t,o.dst=some t->t<s.nt):bT P E s o a w r:=by
 have hbi:∀b args tys,o.op=.call ⟨.builtin b,args,tys⟩->bT P E s o a w r:=by
  intro b args tys ho;have ho0:=ho;rw[ho]at h;simp only[bV]at h;cases Ub:eR ty bO s o.dst b tys.toList args.toList with
  |some r'=>rw[Ub,Option.some_or]at h;cases h;exact He cW ho0 Ub hp hs aN
  |none=>
  rw[Ub,Option.none_or]at h;unfold sG at h;have alen:∀{l:List Operand} {x:Operand},args.toList=[x]->args=#[x]:=λe=>Array.toList_inj.1 e
  split at h
  ·rename_i t x e1 e2;have ea:args=#[x]:=Array.toList_inj.1 e2;have et:tys=#[t]:=Array.toList_inj.1 e1;subst ea;subst et;cases hT:ty t with
   |none=>rw[hT]at h;cases h
   |some d=>
    obtain⟨k,sz,zero,bt⟩:=d;obtain⟨desc,g1,g2⟩:=(cW t _ hT).u;rw[hT]at h;cases k<;>simp only[reduceCtorEq]at h
    ·cases desc<;>simp only[TK.ok]at g2;simp only[Option.map_eq_some_iff]at h;obtain⟨xs,hx,rfl⟩:=h;refine x7 ho hs aN λG lm hM aK=>?_
     obtain⟨A,cap,hv⟩:=uz (aW aK x hp) hx;exact⟨.int .i64 xs.length,λcs=>by simp[builtin,Builtin.len_,run_underlying g1,hv,goInt],by unfold oV LR DR;exact⟨rfl,rfl⟩⟩
    ·cases desc<;>simp only[TK.ok]at g2
     split at h
     ·rename_i n hx
      split at h
      ·rename_i es hn;cases h;refine x7 ho hs aN λG lm hM aK=>?_
       have hv:=aW aK x hp;rw[hx]at hv;unfold LR at hv;obtain⟨_,hown,xs,c,hb,hR⟩:=nJ hM hn;have dL:(getObj (G.nm n)).run P w=.ok (.map xs.toArray c) w:=MapKept.run_getObj_map hb;have hl:xs.length=es.length:=by have:=congrArg List.length hR.1;simpa using this
       exact⟨.int .i64 es.length,λcs=>by simp[builtin,Builtin.len_,run_underlying g1,hv.2,dL,goInt,hl],by unfold oV LR DR;exact⟨rfl,rfl⟩⟩
      ·cases h
     ·rename_i hx;cases h;refine x7 ho hs aN λG lm hM aK=>?_
      have hv:=aW aK x hp;rw[hx]at hv;unfold LR DR at hv;exact⟨.int .i64 0,λcs=>by simp[builtin,Builtin.len_,run_underlying g1,hv.1,goInt],by unfold oV LR DR;exact⟨rfl,rfl⟩⟩
     ·cases h
    ·cases desc<;>simp only[TK.ok]at g2
     split at h
     ·rename_i z hx;cases h;refine x7 ho hs aN λG lm hM aK=>?_
      have hv:=aW aK x hp;rw[hx]at hv;unfold LR DR at hv;exact⟨.int .i64 z.size,λcs=>by simp[builtin,Builtin.len_,run_underlying g1,hv.1,goInt],by unfold oV LR DR;exact⟨rfl,rfl⟩⟩
     ·cases h
  ·rename_i tt x y e2;have ea:args=#[x,y]:=Array.toList_inj.1 e2;subst ea
   split at h
   ·rename_i k m k' n hx hy;cases h;refine x7 ho hs aN λG lm hM aK=>?_
    have hv:=aW aK x hp.1;have hu:=aW aK y hp.2;rw[hx]at hv;rw[hy]at hu;unfold LR DR at hv hu;exact⟨.int k (gW m n),λcs=>by simp[builtin,Builtin.min_,Builtin.min2,hv.1,hu.1,gW],by unfold oV LR DR;exact⟨rfl,rfl⟩⟩
   ·cases h
  ·rename_i tt x y e2;have ea:args=#[x,y]:=Array.toList_inj.1 e2;subst ea
   split at h
   ·rename_i k m k' n hx hy;cases h;refine x7 ho hs aN λG lm hM aK=>?_
    have hv:=aW aK x hp.1;have hu:=aW aK y hp.2;rw[hx]at hv;rw[hy]at hu;unfold LR DR at hv hu;exact⟨.int k (kj m n),λcs=>by simp[builtin,Builtin.max_,Builtin.max2,hv.1,hu.1,kj],by unfold oV LR DR;exact⟨rfl,rfl⟩⟩
   ·cases h
  ·rename_i t t' x y e1 e2;have ea:args=#[x,y]:=Array.toList_inj.1 e2;have et:tys=#[t,t']:=Array.toList_inj.1 e1;subst ea;subst et
   split at h
   ·rename_i htt;have hST:SlT P t t':=by
     rcases htt with q|q
     ·exact .inl q.symm
     ·unfold slK at q
      split at q
      ·exact .inr ⟨_,_,cW _ _ ‹_›,rfl⟩
      ·cases q
    cases hT:ty t with
    |none=>rw[hT]at h;cases h
    |some d=>
     obtain⟨k,sz,zero,bt⟩:=d;rw[hT]at h;cases k<;>simp only[reduceCtorEq]at h;rename_i e;cases he:ty e with
     |none=>rw[he]at h;cases h
     |some ed=>
      rw[he]at h;simp only[Option.bind_some]at h
      split at h
      ·cases h
      ·rename_i hsz;cases hy:rowsOf (s.arg y)with
       |none=>rw[hy]at h;cases h
       |some ys=>
        rw[hy]at h;simp only[Option.bind_some]at h;obtain⟨g2,G,lm,g1,hM,hx,aK,_⟩:=id hs
        split at h
        ·rename_i n xs hxa
         split at h
         ·rename_i e' sz' m hn
          split at h
          ·rename_i hc;obtain⟨rfl,rfl⟩:=hc;cases h;obtain⟨p1,p2,rfl,p4,p5,p6⟩:=hp;have kW:=aW aK x p1;rw[hxa]at kW;obtain⟨v',w',hr,hS⟩:=yO (cW t _ hT) rfl (cW e' _ he) hST ho g1 g2 hM hx aK hn kW (aW aK y p2) hy p4 p5 p6 hsz aN;exact⟨_,v',w',hr,.inl rfl,hS⟩
          ·cases h
         ·cases h
        ·rename_i hxa;cases h;obtain⟨p1,p2,p4,p5⟩:=hp;have kW:=aW aK x p1;rw[hxa]at kW;unfold LR DR at kW;have hle:=Gu (G:=G) s.H.next (.slice none 0 0) 0;have hM1:=hM.TQ e ed.sz (by omega)
         have hx1:Ext E (u7 G s.H.next (.slice none 0 0) 0) (s.H.add (.arr e ed.sz 0)) w:=Ext.trans hx ⟨hle,Nat.le_succ _,rfl,rfl,rfl,Nat.le_refl _,Nat.le_refl _,λ_ _ _=>rfl,λ_ _=>.inl rfl⟩
         have SB:=ic (s:=s) (a:=a) (Nat.le_succ s.H.next) hle (λ_ _ e=>e) aK
         have bl1:LR (u7 G s.H.next (.slice none 0 0) 0) (s.H.add (.arr e ed.sz 0)).next lm (.lF s.H.next []) (a.eval x):=by
          unfold LR;refine⟨Nat.lt_succ_self _,?_,by simp,λ_=>by rw[kW.1];simp[u7]⟩
          rw[kW.1];unfold DR;exact⟨none,0,ed.sz,rfl,Nat.le_refl _,by simp[maxLen],by simp,.inl rfl⟩
         obtain⟨v',w',hr,hS⟩:=yO (s:=s) (H:=s.H.add (.arr e ed.sz 0)) (n:=s.H.next) (xs:=[]) (cW t _ hT) rfl (cW e _ he) hST ho (ct (Nat.le_succ _) hle _ _ g1) g2 hM1 hx1 SB (by simp[GH.ax]) bl1 (bF (Nat.le_succ _) hle (λ_ _ e=>e) _ _ (aW aK y p2)) hy (by simp) p4 (by simpa using p5) hsz aN
         rw[CB]at hS;refine⟨_,v',w',hr,.inl rfl,?_⟩;simpa[S.kD]using hS
        ·cases h
   ·cases h
  ·cases h
 cases hop:o.op with
 |call c=>
  obtain⟨callee,args,tys⟩:=c;cases callee with
  |builtin b=>exact hbi b args tys hop
  |value f=>rw[hop]at h;simp[bV,cG]at h
  |invoke f m=>rw[hop]at h;simp[bV,cG]at h
 |lookup T m k ok=>
  rw[hop]at h;simp only[bV]at h;cases hT:ty T with
  |none=>rw[hT]at h;cases h
  |some d=>
   obtain⟨kd,sz,zero,bt⟩:=d;rw[hT]at h;cases kd<;>simp only[reduceCtorEq]at h;rename_i kt et;cases hkk:gI ty bR kt with
   |none=>rw[hkk]at h;cases h
   |some kk=>
    cases he:ty et with
    |none=>rw[hkk,he]at h;cases h
    |some ed=>
     cases hz:lG ed with
     |none=>rw[hkk,he]at h;simp[hz]at h
     |some z=>
      cases hkey:keyOf (s.arg k)with
      |none=>rw[hkk,he]at h;simp[hz,hkey]at h
      |some key=>
       rw[hkk,he]at h;simp only[Option.bind_some,hz,hkey]at h
       split at h
       ·rename_i n hm
        split at h
        ·rename_i es hn;cases h;exact Pa cW heq Mv hop (cW _ _ hT) rfl hkk (cW _ _ he) hz hkey hm hn hp.1 hp.2.1 hp.2.2.1 hp.2.2.2 hs aN _
        ·cases h
       ·rename_i hm;cases h;exact FF cW heq Mv hop (cW _ _ hT) rfl hkk (cW _ _ he) hz hkey hm hp.1 hp.2.1 hp.2.2 hs aN _
       ·cases h
 |mapUpdate T m k v=>
  rw[hop]at h;simp only[bV]at h
  split at h
  ·rename_i kt et sz zero bt n hT hm;cases hkk:gI ty bR kt with
   |none=>rw[hkk]at h;cases h
   |some kk=>
    cases hkey:keyOf (s.arg k)with
    |none=>rw[hkk]at h;simp[hkey]at h
    |some key=>
     rw[hkk]at h;simp only[Option.bind_some,hkey]at h
     split at h
     ·rename_i es hn;cases h;exact vK cW heq Mv (.inl hop) (cW _ _ hT) rfl hkk hkey hm hn hp.1 hp.2.1 hp.2.2.1 hp.2.2.2.1 hp.2.2.2.2.1 hp.2.2.2.2.2 hs aN _
     ·cases h
  ·cases h
 |insert T m k v=>
  rw[hop]at h;simp only[bV]at h
  split at h
  ·rename_i kt et sz zero bt n hT hm;cases hkk:gI ty bR kt with
   |none=>rw[hkk]at h;cases h
   |some kk=>
    cases hkey:keyOf (s.arg k)with
    |none=>rw[hkk]at h;simp[hkey]at h
    |some key=>
     rw[hkk]at h;simp only[Option.bind_some,hkey]at h
     split at h
     ·rename_i es hn;cases h;exact vK cW heq Mv (.inr hop) (cW _ _ hT) rfl hkk hkey hm hn hp.1 hp.2.1 hp.2.2.1 hp.2.2.2.1 hp.2.2.2.2.1 hp.2.2.2.2.2 hs aN _
     ·cases h
  ·cases h
 |mapEntry T m k=>
  rw[hop]at h;simp only[bV]at h
  split at h
  ·rename_i kt et sz zero bt n hT hm;cases hkk:gI ty bR kt with
   |none=>rw[hkk]at h;cases h
   |some kk=>
    cases he:ty et with
    |none=>rw[hkk,he]at h;cases h
    |some ed=>
     cases hz:lG ed with
     |none=>rw[hkk,he]at h;simp[hz]at h
     |some z=>
      cases hkey:keyOf (s.arg k)with
      |none=>rw[hkk,he]at h;simp[hz,hkey]at h
      |some key=>
       rw[hkk,he]at h;simp only[Option.bind_some,hz,hkey]at h
       split at h
       ·rename_i es hn;cases h;exact It cW heq Mv hop (cW _ _ hT) rfl hkk (cW _ _ he) hz hkey hm hn hp.1 hp.2.1 hp.2.2.1 hp.2.2.2 hs aN _
       ·cases h
  ·cases h
 |entryStore T m t v=>
  rw[hop]at h;simp only[bV]at h
  split at h
  ·rename_i n kd j hm ht
   split at h
   ·rename_i es hn;cases h;exact CW hop hm ht hn hp.1 hp.2.1 hp.2.2.1 hp.2.2.2.1 hp.2.2.2.2.1 hp.2.2.2.2.2 hs aN _
   ·cases h
  ·cases h
 |slice T x lo hi mx=>
  rw[hop]at h;cases mx with
  |some m=>simp only[bV]at h;exact oO cW (by rw[hop];exact h) hp hs aN
  |none=>
   simp only[bV]at h;cases hv:Rf ty s T x lo hi with
   |some r'=>rw[hv,Option.some_or]at h;cases h;exact OX cW hop hv hp hs aN
   |none=>rw[hv,Option.none_or]at h;exact oO cW (by rw[hop];exact h) hp hs aN
 |makeSlice T l c=>
  rw[hop]at h;simp only[bV]at h;exact L4 cW hop h hp hs aN
 |index T x i=>
  rw[hop]at h;simp only[bV]at h;exact oO cW (by rw[hop];exact h) hp hs aN
 |makeInterface T x=>
  rw[hop]at h;simp only[bV]at h;exact oO cW (by rw[hop];exact h) hp hs aN
 |convert A B x=>
  rw[hop]at h;simp only[bV]at h;exact oO cW (by rw[hop];exact h) hp hs aN
 |typeAssert x xT aT ok=>
  rw[hop]at h;cases ok with
  |true=>simp only[bV]at h;exact Ra cW hop h hp hs aN
  |false=>simp only[bV,cG]at h;cases h
 |binOp bo T x y yT=>
  rw[hop]at h;simp only[bV]at h;cases hn:mM ty s bo T x y with
  |none=>
   rw[hn,Option.none_or]at h;exact x6 cW heq (by rw[hop];exact h) hp hs aN
  |some r'=>
   rw[hn,Option.some_or]at h;cases h;exact FK cW hop hn hp hs aN
 |_=>
  have h':cG ty bR bO s o.dst o.op=some r:=by rw[hop]at h|-;exact h
  exact x6 cW heq h' hp hs aN
end
end Go.Aft
end
section
namespace Go.Aft
def iq(G:Gh):Gh:={G with own:=λb=>match G.own b with|.loc _=>.qk|o=>o}
theorem ng(nx:Nat)(G:Gh):G.le nx (iq G):=⟨Mem.le_refl _,λ_ _=>rfl,λ_ _=>⟨Nat.le_refl _,λ_=>rfl⟩⟩
def jK(G G2:Gh):Gh:={G2 with own:=λb=>match G.own b with|.loc k=>.loc k|_=>G2.own b}
theorem lz(nx:Nat)(G G2:Gh):G2.le nx (jK G G2):=⟨Mem.le_refl _,λ_ _=>rfl,λ_ _=>⟨Nat.le_refl _,λ_=>rfl⟩⟩
section
variable {E:tL} {G:Gh} {lm:Nat->Option Nat} {L:Nat->Option (List LV)} {H:GH} {w:World}
theorem zM(h:MR G lm L H w):MR (iq G) ix vi H w/\lD (iq G):=by
 have hn:∀b n,G.own b=.nm n->(iq G).own b=.nm n:=λb n hb=>by simp[iq,hb]
 refine⟨⟨h.qC,λb o v hv=>?_,λb hb=>?_,λ_ _=>rfl,λk cs hk=>by simp[vi]at hk,λn o ho=>?_⟩,λb k=>?_⟩
 ·rcases h.dF b o v hv with q|⟨n,e,sz,m,q1,q2,q3⟩
  ·left;simp[iq,q]
  ·exact .inr (⟨n,e,sz,m,hn b n q1,q2,q3⟩)
 ·exact⟨by simp[iq,(h.fresh b hb).1],(h.fresh b hb).2⟩
 ·obtain⟨h1,h2⟩:=h.iC n o ho;exact⟨h1,fM (Nat.le_refl _) h1 (ng _ G) h2 ⟨rfl,rfl⟩ λb hb=>⟨hn b n hb,rfl,λ_ _ q=>q⟩⟩
 ·simp only[iq];cases G.own b<;>simp
theorem zN(h:MR G lm L H w)(hx:Ext E G H w){G2:Gh}{H2:GH}{w2:World}(h2:MR G2 ix vi H2 w2)(hn2:lD G2)(hx2:Ext ⟨iq G,H,w⟩ G2 H2 w2):
  MR (jK G G2) lm L H2 w2/\Ext E (jK G G2) H2 w2/\G.le H.next (jK G G2):=by
 have hf:∀b k,G.own b=.loc k->G2.own b=.qk/\w2.heap[b]?=w.heap[b]?:=λb k hb=>by
  have hlt:=jB h (b:=b) (by rw[hb];simp)
  have hc:(iq G).own b=.qk:=by simp[iq,hb]
  refine⟨?_,hx2.frame b hlt (.inr hc)⟩;rcases hx2.own b hlt with q|⟨⟨n,q⟩,_⟩
  ·exact q.trans hc
  ·rw[hc]at q;cases q
 have Em:∀b n,G2.own b=.nm n->(jK G G2).own b=.nm n:=λb n hb=>by
  simp only[jK];cases ho:G.own b with
  |loc k=>rw[(hf b k ho).1]at hb;cases hb
  |_=>exact hb
 have hnone:∀b,G2.own b=.none->(jK G G2).own b=.none:=λb hb=>by
  simp only[jK];cases ho:G.own b with
  |loc k=>rw[(hf b k ho).1]at hb;cases hb
  |_=>exact hb
 have hle:G.le H.next (jK G G2):=Gh.le_trans (Nat.le_refl _) (ng _ G) (Gh.le_trans hx2.nx hx2.le (lz _ G G2));refine⟨⟨h2.qC,λb o v hv=>?_,λb hb=>?_,h.C3,λk cs hk=>?_,λn o ho=>?_⟩,?_,hle⟩
 ·rcases h2.dF b o v hv with q|⟨n,e,sz,m,q1,q2,q3⟩
  ·exact .inl (hnone b q)
  ·exact .inr ⟨n,e,sz,m,Em b n q1,q2,q3⟩
 ·have hb':w.heap.size<=b:=Nat.le_trans hx2.size hb;exact⟨hnone b (h2.fresh b hb).1,(h2.fresh b hb).2⟩
 ·obtain⟨b,vs,q1,q2,q3,q4⟩:=h.loc k cs hk;exact⟨b,vs,q1,by simp[jK,q2],gC (hf b k q2).2 q3,ca hx2.nx hle (λ_ _ e=>e) _ _ q4⟩
 ·obtain⟨q1,q2⟩:=h2.iC n o ho;exact⟨q1,fM (Nat.le_refl _) q1 (lz _ G G2) q2 ⟨rfl,rfl⟩ λb hb=>⟨Em b n hb,rfl,λ_ _ q=>q⟩⟩
 ·refine Ext.trans hx ⟨hle,hx2.nx,hx2.os,hx2.tape,hx2.output,hx2.drawn,hx2.size,λb hb ho=>?_,λb hb=>?_⟩
  ·refine hx2.frame b hb ?_;rcases ho with q|q<;>simp only[iq]<;>simp only at q<;>rw[q]<;>simp
  ·simp only[jK];cases ho:G.own b with
   |loc k=>exact .inl rfl
   |none=>have:=hx2.own b hb;simp[iq,ho]at this;exact .inl this
   |qk=>have:=hx2.own b hb;simp[iq,ho]at this;exact .inl this
   |nm n=>
    have:=hx2.own b hb;simp[iq,ho]at this;rcases this with q|q
    ·exact .inl q
    ·exact .inr ⟨⟨n,rfl⟩,q⟩
end
structure Cx where
 ty:TypeId->Option aU
 bR:TypeId->Option (List Sc)
 bO:Nat->Kd
 spec:FuncId->List LV->Option (Prop×LV)
 rd:RD
def Enters(P:Program)(f:FuncId):Prop:=∀args w,(callFunc f args).run P w=.ok (.enter f args) w
def aG(P:Program)(f:FuncId)(args:List LV)(H:GH)(R:CE->GH->Prop):Prop:=Enters P f/\jR P f args H R
def aC(P:Program)(f:FuncId)(args:List LV)(v:LV):Prop:=∀H,aG P f args H λce H'=>ce=.ret v/\H'=H
structure Cx.ok(P:Program)(c:Cx):Prop where
 ty:nA P c.ty
 bR:zf P c.bR
 key:wI P c.bR
 spec:∀f args pre v,c.spec f args=some (pre,v)->pre->aC P f args v
 mixed:P.follows .mixedOrders=true
theorem aG.mono{P:Program}{f:FuncId}{args:List LV}{H:GH}{R R':CE->GH->Prop}(h:aG P f args H R)(hr:∀e H',R e H'->R' e H'):aG P f args H R':=⟨h.1,h.2.mono hr⟩
def ei(P:Program)(n:Nat)(args:List LV)(H:GH)(R:CE->GH->Prop):Prop:=
 ∀G w vs,MR G ix vi H w->lD G->bH G H.next ix args vs->∃fn tmps lR body,
  (Instr.yield (G.nm n) vs.toArray).run P w=.ok (.round (G.nm n) fn tmps lR body) w/\RoundIn Fence.wide 0 P (G.nm n) fn tmps lR body w (E6 G H w R)
def oT:Value->LV
 |.agg vs=>.agg (vs.toList.map kz)
 |v=>.d (.k v)
def oS:Value->Bool
 |.agg vs=>vs.toList.all Value.oneCell'
 |v=>v.oneCell'
def cE:LV->Option (FuncId×List LV×List LV)
 |.fn (.func f) first cap=>some (f,first,cap)
 |_=>none
def jc:List Prop->Prop
 |[]=>True
 |p::ps=>p/\jc ps
def VK(K:S->Prop)(Q:AE->S->Prop)(s:S)(dst:Option Nat):CE->GH->Prop
 |.ret v,H'=>K (({s with H:=H'}:S).put dst v)
 |.ej x,H'=>Q (.ej x) {s with H:=H'}
def oe(bO:Nat->Kd):List Operand->S->Option S
 |[],s=>some s
 |o::l,s=>match s.get o with
  |.lp k 0=>if bO k=.qC then(match s.L k with
   |some cs=>if gT cs=true then oe bO l (s.frz k cs)else none
   |none=>none)else oe bO l s
  |_=>oe bO l s
def gy(P:Program)(c:Cx)(s:S)(dst:Option Nat)(op:Op)(K:S->Prop)(Q:AE->S->Prop):Prop:=
 match op with
 |.call ⟨.value fo,args,_⟩=>
  match cE (s.arg fo)with
  |none=>match s.arg fo with
   |.yl n=>s.aI fo/\jc (args.toList.map s.aI)/\cD s.H.next (args.toList.map s.arg)/\ei P n (args.toList.map s.arg) s.H (VK K Q s dst)
   |_=>False
  |some (f,first,cap)=>
   s.aI fo/\jc (args.toList.map s.aI)/\cD s.H.next (first++args.toList.map s.arg++cap)/\
   match c.spec f (first++args.toList.map s.arg++cap)with
   |some (pre,v)=>pre/\K (s.put dst v)
   |none=>aG P f (first++args.toList.map s.arg++cap) s.H (VK K Q s dst)
 |.defer ⟨.value fo,args,_⟩=>
  match cE (s.arg fo)with
  |none=>False
  |some (f,first,cap)=>c.rd.r=none/\s.aI fo/\jc (args.toList.map s.aI)/\cD s.H.next (first++args.toList.map s.arg)/\cD s.H.next cap/\K (({s with df:=.call f (first++args.toList.map s.arg) cap::s.df}:S).put dst .any)
 |.makeFunc fn first cap=>
  match oe c.bO cap.toList s with
  |none=>False
  |some s'=>K (s'.put dst (.fn fn (first.toList.map s'.get) (cap.toList.map s'.get)))
 |.range T x=>
  match c.ty T,s.arg x with
  |some ⟨.map _ _,_,_,_⟩,.gm m=>match s.H.obj m with
   |some (.map es)=>s.aI x/\K (({s with H:=s.H.add (.iter m es.length [] es.length)}:S).put dst (.gp s.H.next 0))
   |_=>False
  |_,_=>False
 |.next x false=>
  match s.arg x with
  |.gp n 0=>match s.H.obj n with
   |some (.iter m since seen last)=>match s.H.obj m with
    |some (.map es)=>s.aI x/\since=es.length/\last=es.length/\es.all (λe=>oS e.1)=true/\
     (∀i e,es[i]?=some e->i∉seen->K (({s with H:=s.H.set n (.iter m since (seen++[i]) es.length)}:S).put dst (.dh [.d (.k (.bool true)),oT e.1,e.2])))/\
     ((∀i,i<es.length->i∈seen)->K (s.put dst (.dh [.d (.k (.bool false))])))
    |_=>False
   |_=>False
  |_=>False
 |.entry x=>
  match s.arg x with
  |.gp n 0=>match s.H.obj n with
   |some (.iter m since seen last)=>match s.H.obj m with
    |some (.map es)=>s.aI x/\last=es.length/\es.all (λe=>oS e.1)=true/\∃i e,seen.getLast?=some i/\es[i]?=some e/\K (s.put dst (.dh [oT e.1,e.2]))
    |_=>False
   |_=>False
  |_=>False
 |.panic x=>s.aI x/\(s.arg x).nb s.H.next/\(match s.arg x with|.d (.k (.iface _ _))=>Q (.ej (s.arg x)) s|_=>False)
 |.buildSlice T len parts=>match(bsV c.ty c.bO s dst T len parts).or (bV c.ty c.bR c.bO s dst (.buildSlice T len parts))with
  |none=>False
  |some r=>r.pre/\K ((s.kD dst r.kD).put dst r.v)
 |op=>match bV c.ty c.bR c.bO s dst op with
  |none=>False
  |some r=>r.pre/\K ((s.kD dst r.kD).put dst r.v)
def cS(c:Cx)(s:S)(dst:Option Nat)(op:Op):Option (Prop×LV):=
 match op with
 |.call ⟨.value fo,args,_⟩=>
  match cE (s.arg fo)with
  |none=>none
  |some (f,first,cap)=>(c.spec f (first++args.toList.map s.arg++cap)).map λr=>(s.aI fo/\jc (args.toList.map s.aI)/\cD s.H.next (first++args.toList.map s.arg++cap)/\r.1,r.2)
 |op=>match bV c.ty c.bR c.bO s dst op with
  |some ⟨pre,v,.no⟩=>some (pre,v)
  |_=>none
def mJ(g:Bool)(x y:LV):LV:=
 match x,y with
 |.d (.k (.bool a)),.d (.k (.bool b))=>.d (.k (.bool (bif g then a else b)))
 |x,y=>bif g then x else y
def guardOf(ops:Array Oper)(s:S)(j:Nat)(want:Bool):Option Bool:=
 match(ops[j]?).bind (·.dst)with
 |none=>none
 |some t=>match s.env t with
  |.d (.k (.bool g))=>some (g==want)
  |.gd g0 (.d (.k (.bool g)))=>some (g0&&(g==want))
  |_=>none
def qM(P:Program)(c:Cx)(ops:Array Oper):List Oper->S->(AE->S->Prop)->Prop
 |[],s,Q=>Q .normal s
 |o::rest,s,Q=>
  (match o.dst with|some t=>t<s.nt|none=>True)/\
  match o.guard with
  |none=>
   match o.op with
   |.pick x a b=>
    match s.arg x with
    |.d (.k (.bool g))=>s.aI x/\(g=true->s.aI a)/\(g=false->s.aI b)/\qM P c ops rest (s.put o.dst (mJ g (s.arg a) (s.arg b))) Q
    |_=>False
   |op=>gy P c s o.dst op (λs'=>qM P c ops rest s' Q) Q
  |some (j,want)=>
   match guardOf ops s j want with
   |none=>False
   |some g=>
    match o.op with
    |.pick x a b=>
     match s.arg x with
     |.d (.k (.bool h))=>(g=true->s.aI x/\(h=true->s.aI a)/\(h=false->s.aI b))/\qM P c ops rest (s.put o.dst (.gd g (mJ h (s.arg a) (s.arg b)))) Q
     |_=>False
    |op=>
     match cS c s o.dst op with
     |some (pre,v)=>(g=true->pre)/\qM P c ops rest (s.put o.dst (.gd g v)) Q
     |none=>(g=true->gy P c s o.dst op (λs'=>qM P c ops rest s' Q) Q)/\(g=false->qM P c ops rest (s.put o.dst .any) Q)
end Go.Aft
end
