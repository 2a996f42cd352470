import Derived.Test.YthinedikejlgmaaGreatA20
set_option linter.all false
section
set_option maxRecDepth 20000
namespace Go.Aft
open Go.Proofs.Tryz
def xD(r:Option Nat)(f:FuncId)(bO:Nat->Kd):Cx:=⟨bW bl,λ_=>none,bO,λ_ _=>none,⟨r,some f⟩⟩
@[simp] theorem bs4 {r:Option Nat} {f:FuncId} {p:Nat->Kd}:(xD r f p).ty=bW bl:=rfl
@[simp] theorem aT0 {r:Option Nat} {f:FuncId} {p:Nat->Kd} (t:TypeId):(xD r f p).bR t=none:=rfl
@[simp] theorem aS9 {r:Option Nat} {f:FuncId} {p:Nat->Kd} (t:Nat):(xD r f p).bO t=p t:=rfl
@[simp] theorem aG3 {r:Option Nat} {g:FuncId} {p:Nat->Kd} (f:FuncId) (a:List LV):(xD r g p).spec f a=none:=rfl
@[simp] theorem bs5 {r:Option Nat} {f:FuncId} {p:Nat->Kd}:(xD r f p).rd = ⟨r,some f⟩:=rfl
theorem gF{r:Option Nat}{f:FuncId}{p:Nat->Kd}:(xD r f p).ok prog:=⟨vt,λT ks h=>(by cases h),λT ks h=>(by cases h),λf args pre v h=>(by cases h),(by kernel_rfl)⟩
def Rp(x:LP)(n:Nat)(H0:GH)(R:CE->GH->Prop):AE->S->Prop
 |.normal,s=>gU s.H->iJ x n H0 R s none
 |.ret,s=>gU s.H->iJ x n H0 R s (some .ret)
 |.exit i,s=>gU s.H->iJ x n H0 R s (some (.exit i))
 |.goto l,s=>gU s.H->iJ x n H0 R s (some (.goto l))
 |.ej v,s=>gU s.H->s.df=[]/\∃H',Drop H0 s.H H'/\v.nb H'.next/\R (.ej v) H'
attribute [simp] Rp iJ
theorem ei.ofN{P:Program}{c:Nat->Cx}{n:Nat}{x:LP}(hc:∀l,(c l).ok P)(hrd:∀l,(c l).rd=⟨some l,some x.f⟩){args:List LV}{H:GH}{R:CE->GH->Prop}(hn:H.obj n=some (x.go .ready none))(hf:∃fn,P.funcs[x.f]?=some fn)(hl:args.length=x.ps.size)(hps:∀p∈x.ps.toList,p<x.nt)
  (h:gU H->∀l,@EV P (c l) ⟨x.lR⟩ ⟨mI x.env (x.ps.toList.zip args),vi,H,x.nt,[]⟩ ⟨@TH ⟨λs1=>s1.H.obj n=some (x.go .ready none)/\@AW P (c l).rd ⟨x.body⟩ {s1 with H:=s1.H.set n (x.go .busy none)} ⟨Rp x n H R⟩⟩ ⟨λ_ _=>False⟩⟩):ei P n args H R:=by
 intro G w vs hM qd hargs;have hw:gU H:=⟨λn hn=>by
  cases ho:H.obj n with
  |none=>rfl
  |some o=>have:=(hM.iC n o ho).1;omega,λn o ho=>CA (hM.iC n o ho).2⟩
 refine ei.VW hn hf hl hps (λ_ l=>?_) G w vs hM qd hargs
 have:=EV.sound (hc l) (h hw l);rw[<-hrd l];refine fh.mono this λae s q=>?_
 cases ae with
 |normal=>
  refine⟨q.1,?_⟩;exact fh.RY q.2 λae s' hz q'=>by cases ae<;>exact q' hz
 |_=>exact q
theorem Ff(d:Ux):aC prog 94 [lv (fm d)] (.d (.k (.string d.name))):=by
 refine aC.body (au (p:=bf [1] [] [])) func94 rfl call94 (by rw[ntmps94];simp) rfl λhf H=>?_
 simp[ntmps94,results94,fm,aj]
theorem OP(l:List Ux)(hl:l.length<=1000):aC prog 93 [sl (l.map fm),.fn (.func 94) [] []] (sl ((l.map (·.name)).map rS)):=by
 have cc:=aP;refine aC.body aP func93 rfl call93 (by rw[ntmps93];simp) rfl λhf H=>?_
 simp[ntmps93,results93]at hf|-;refine AW.aV cc (λa:Nat×LV×GH=>⟨[(1,.fn (.func 94) [] []),(5,a.2.1),(8,.d (.sl (l.map fm))),(9,aH l.length),(10,aH a.1)],[],a.2.2⟩) (λa=>l.length-a.1) (λa=>a.1<=l.length/\CF 9 1 H a.2.1 (((l.take a.1).map (·.name)).map rS) a.2.2) (0,.d (.k (.slice none 0 0)),H) ⟨⟨by simp,.nil⟩,by simp⟩ ?_
 rintro⟨i,x,H'⟩ ⟨hi,aA⟩;simp only at hi aA;simp;refine⟨λh=>?_,λh=>?_⟩
 ·have hd:=Ff l[i];simp[fm,aj]at hd;simp[h,List.getElem?_eq_getElem h,fm,aj,aA.plain.all];refine EC.aJ hd ?_;simp[aA.plain.all];refine eO.Cg rS ((l.take i).map (·.name)) [l[i].name] Ng rfl VB (by simp) (λ_=>rfl) (x:=x) (by simp) aA (by simp[rS,rowsOf]) (by simp) (by simp;omega) (by simp) λx' H2 aF=>?_
  have ht:(l.take i).map (·.name)++[l[i].name]=(l.take (i+1)).map (·.name):=by rw[<-aR h,List.map_append];rfl
  rw[ht]at aF;simp[aF.plain.all,aF.only,aB h hf.1];exact NX.go (i+1,x',H2) (by simp;omega) ⟨h,aF⟩ (by simp[aF.only,aF.plain.all,LV.only])
 ·have:i=l.length:=by omega
  subst this;rw[List.take_length]at aA;have hz:=aA.fz;simp[aA.plain.all,hz.1];exact hz.2
structure lM(es:List (Value×LV))(M:Nat->Bool):Prop where
 get:∀k:Nat,bD (.int .i64 k) es=if M k=true then some (.d (.k (.bool true)))else none
 key:∀(a:Value) (b:LV),(a,b)∈es->(KK.sc (Sc.int .i64)).has a=true
 nb:∀n,cD n (es.map (·.2))
 nat:∃ks:List Nat,ks.Nodup/\es.map (·.1)=ks.map λk:Nat=>Value.int .i64 k
theorem DQ(k:Nat)(v:LV):∀(es:List (Value×LV)) (ks:List Nat),es.map (·.1)=ks.map (λk:Nat=>Value.int .i64 k)->(cr (.int .i64 k) v es).map (·.1)=(if k∈ks then ks else ks++[k]).map λk:Nat=>Value.int .i64 k
 |[],[],_=>by simp[cr]
 |[],j::ks,h=>by simp at h
 |e::es,[],h=>by simp at h
 |(a,b)::es,j::ks,h=>by
  simp only[List.map_cons,List.cons.injEq]at h;obtain⟨rfl,h⟩:=h;have ih:=DQ k v es ks h;simp only[cr,gJ];by_cases e:(k:Int)=j
  ·have e':k=j:=by omega
   subst e';simp[h]
  ·have e':¬k=j:=by omega
   have h1:(k∈j::ks)=(k∈ks):=by simp[e']
   simp only[e,decide_false,Bool.false_eq_true,if_false,List.map_cons,ih,h1]
   split<;>rfl
theorem lM.put{es:List (Value×LV)}{M:Nat->Bool}(h:lM es M)(k:Nat):lM (cr (.int .i64 k) (.d (.k (.bool true))) es) (ga M k):=by
 have hg:∀(es:List (Value×LV)),(∀(a:Value) (b:LV),(a,b)∈es->(KK.sc (Sc.int .i64)).has a=true)->∀j:Nat,bD (.int .i64 j) (cr (.int .i64 k) (.d (.k (.bool true))) es)=if j=k then some (.d (.k (.bool true)))else bD (.int .i64 j) es:=by
  intro es
  induction es with
  |nil=>
   intro _ j;simp only[cr,bD,gJ];by_cases e:j=k
   ·subst e;simp
   ·have e2:¬(j:Int)=k:=by omega
    simp[e,e2]
  |cons a es ih=>
   obtain⟨a,b⟩:=a;intro hk j;have ha:=hk a b (by simp)
   cases a with
   |int kk n=>
    have:kk=.i64:=by simpa[KK.has,Sc.has,eq_comm]using ha
    subst this;simp only[cr,gJ];by_cases e1:(k:Int)=n
    ·simp only[e1,decide_true,if_true,bD,gJ];by_cases e2:j=k
     ·subst e2;simp[e1]
     ·have:¬(j:Int)=n:=by omega
      simp[e2,this]
    ·simp only[e1,decide_false,Bool.false_eq_true,if_false,bD,gJ];by_cases e3:(j:Int)=n
     ·have:¬j=k:=by omega
      simp[e3,this]
     ·simp only[e3,decide_false,Bool.false_eq_true,if_false];exact ih (λa b hab=>hk a b (by simp[hab])) j
   |_=>simp[KK.has,Sc.has]at ha
 have hm:∀(es:List (Value×LV)) (a:Value) (b:LV),(a,b)∈cr (.int .i64 k) (.d (.k (.bool true))) es->(a=.int .i64 k/\b=.d (.k (.bool true)))\/ (a,b)∈es:=by
  intro es
  induction es with
  |nil=>intro a b hab;simp[cr]at hab;exact .inl hab
  |cons x es ih=>
   intro a b hab;simp only[cr]at hab
   split at hab
   ·rcases List.mem_cons.1 hab with q|q
    ·cases q;exact .inl ⟨rfl,rfl⟩
    ·exact .inr (by simp[q])
   ·rcases List.mem_cons.1 hab with q|q
    ·exact .inr (by simp[q])
    ·rcases ih a b q with r|r
     ·exact .inl r
     ·exact .inr (by simp[r])
 have hnb:∀n (es:List (Value×LV)),cD n (es.map (·.2))↔∀a b,(a,b)∈es->b.nb n:=by
  intro n es
  induction es with
  |nil=>simp[cD]
  |cons x es ih=>
   simp only[List.map_cons,cD,ih,List.mem_cons];constructor
   ·rintro⟨h1,h2⟩ a b (q|q)
    ·rw[<-q]at h1;exact h1
    ·exact h2 a b q
   ·exact λh=>⟨h x.1 x.2 (.inl rfl),λa b q=>h a b (.inr q)⟩
 refine⟨λj=>?_,λa b hab=>?_,λn=>?_,?_⟩
 rotate_left 3
 ·obtain⟨ks,h1,h2⟩:=h.nat;refine⟨if k∈ks then ks else ks++[k],?_,DQ k _ es ks h2⟩
  split
  ·exact h1
  ·rename_i q;rw[List.nodup_append];exact⟨h1,by simp,λa ha b hb=>by simp at hb;subst hb;intro z;subst z;exact q ha⟩
 ·rw[hg es h.key j,h.get j];unfold ga;by_cases e:j=k<;>simp[e]
 ·rcases hm es a b hab with⟨rfl,_⟩|q
  ·rfl
  ·exact h.key a b q
 ·rw[hnb];intro a b hab;rcases hm es a b hab with⟨_,rfl⟩|q
  ·simp[LV.nb]
  ·exact(hnb n es).1 (h.nb n) a b q
theorem lM.nil:lM [] (λ_=>false):=⟨λk=>rfl,λa b h=>absurd h List.not_mem_nil,λn=>trivial,[],by simp,rfl⟩
def qB(e:bz):Prop:=e.op=2\/ e.op=3
def aM6(S:Nat->Nat->Prop)(mo d:Nat)(M:Nat->Bool)(H:GH):CE->GH->Prop:=λce H'=>(∃v,ce=.ret v)/\∃es' M',H'=H.set mo (.map es')/\lM es' M'/\sN S M M' d
def Be(p:Prog)(n no nl:Nat):List LV:=[.ip ((ar p).map .d) 0,.ip [.gp n 0] 0,.gp no 0,.gp nl 0]
def D5(p:Prog)(n no nl:Nat):LV:=.fn (.func 169) [] (Be p n no nl)
def Ak(p:Prog):Prop:=∀(i:Nat) (h:i<p.ai.length),∀e∈bc p.ai[i].exp,qB e->0<=idx (an p) e.name
theorem GH.iX{H:GH}{n:Nat}{o:GO}(h:H.obj n=some o):H.set n o=H:=by
 obtain⟨f,k⟩:=H;simp only[GH.set]at h|-
 congr 1;funext m;simp only[eL];split
 ·rename_i e;subst e;exact h.symm
 ·rfl
theorem GH.set_comm{H:GH}{n m:Nat}{a b:GO}(h:n≠m):(H.set n a).set m b=(H.set m b).set n a:=by
 simp only[GH.set];congr 1;funext k;simp only[eL]
 split
 ·rename_i e;subst e;rw[if_neg (Ne.symm h)]
 ·rfl
theorem gU.set{H:GH}(h:gU H){n:Nat}{o:GO}(hn:n<H.next)(ho:o.nb H.next):gU (H.set n o):=by
 refine⟨λm hm=>?_,λm o' ho'=>?_⟩
 ·have hm':H.next<=m:=hm;rw[GH.ay,if_neg (by omega)];exact h.none m hm'
 ·rw[GH.ay]at ho'
  split at ho'
  ·cases ho';exact ho
  ·exact h.nb m o' ho'
theorem CC{H0 H H':GH}(h1:H'.next<=H.next)(h2:∀m,m<H'.next->H'.obj m=H.obj m)(h3:gU H')(h4:H0.next<=H'.next):Drop H0 H H':=⟨h1,h4,h2,h3.none,λn o ho=>.inr (h3.nb n o ho)⟩
theorem ON(p:Prog)(hp:Ak p)(n m1 m2 m3 no nl mo:Nat)(hne:m1≠mo/\m2≠mo/\m3≠mo)(ahead nodes:Int):∀(u:Nat) (M:Nat->Bool) (d:Nat) (hd:d<p.ai.length) (H:GH) (es:List (Value×LV)),Fa p.ai.length M=u->
  Cp H n m1 m2 m3 p.az (an p) ahead nodes->H.obj no=some (.box [.gm mo])->H.obj nl=some (.box [D5 p n no nl])->H.obj mo=some (.map es)->lM es M->
  aG prog 169 ([aH d]++Be p n no nl) H (aM6 (gb p) mo d M H):=by
 intro u
 induction u using Nat.strongRecOn with
 |_ u ih=>
  intro M d hd H es hu hs hno hnl hmo hM;have cc:=gF (r:=none) (f:=169) (p:=bf [] [] []);have ccR:∀l,(xD (some l) 169 (bf [] [] [])).ok prog:=λl=>gF
  refine aG.bG (gF (r:=none) (f:=169) (p:=bf [] [] [])) func169 rfl call169 (by rw[ntmps169];simp[Be]) rfl λhf hw=>?_
  have By:=pK p.ai[d].exp;simp[aj]at By;simp[ntmps169,results169,Be,ar,fm,aj,hd,List.getElem?_eq_getElem hd];refine EC.aJ By ?_;simp;refine AW.at (c:=xD none 169 (bf [] [] [])) ⟨[(1,.ip ((ar p).map .d) 0),(2,.ip [.gp n 0] 0),(3,.gp no 0),(4,.gp nl 0),(14,iF p.ai[d].exp)],[],H⟩ (by simp[ar,iF,LV.only,aj]) ?_
  have a0:=hw.lt hs.sc;have a1:=hw.lt hno;have a2:=hw.lt hnl;have a3:=hw.lt hmo;have a4:=hw.lt hs.o1;have a5:=hw.lt hs.o2;have a6:=hw.lt hs.o3;have ne:=hs.ne;have b1:n≠mo:=λe=>by have:=hs.sc;rw[e,hmo]at this;cases this
  have b2:no≠mo:=λe=>by rw[e,hmo]at hno;cases hno
  have b3:nl≠mo:=λe=>by rw[e,hmo]at hnl;cases hnl
  refine fh.rangeFunc rfl rfl (f:=164) (first:=[]) (cap:=[.ip ((aS p.ai[d].exp).map .d) 0]) (by simp[iF]) (by simp[iF])
   [(1,.ip ((ar p).map .d) 0),(2,.ip [.gp n 0] 0),(3,.gp no 0),(4,.gp nl 0)] (by simp[ny]) (by simp[ny,LV.nb,cD,a0,a1,a2]) (by simp[cD,LV.nb]) ?_
  simp only[LS.CP,List.nil_append,List.singleton_append];generalize hx:LP.mk _ _ _ _ _ _ _=x;have Jp:x.f=169:=by rw[<-hx]
  have F2:x.d=H.next:=by rw[<-hx]
  have dc:∀t,(x.env t).nb (H.next+2):=by
   rw[<-hx];intro t;refine zG ?_ t;simp[ny,LV.nb,cD];omega
  obtain⟨J,hJ⟩:∃J:Nat->GH->Prop,J=λi H'=>∃es' M',H'.obj (H.next+1)=some (x.go .ready none)/\H'.obj H.next=some .qI/\(∀m,m<H.next->m≠mo->H'.obj m=H.obj m)/\H'.obj mo=some (.map es')/\lM es' M'/\
   iU (gb p) M M' d (λk=>∃e∈(bc p.ai[d].exp).take i,qB e/\idx (an p) e.name=(k:Int)):=⟨_,rfl⟩
  have hI:Iter prog (H.next+1) (H.next+2) (je p.ai[d].exp) J (λ_=>False) (λ_ _=>False):=by
   refine⟨λ{i H1 H2} hj lY _=>?_,λh=>h.elim,λh=>h.elim,λ{i H1} hj m o hm ho=>?_,λh=>h.elim,λh=>h.elim,?_⟩
   ·rw[hJ]at hj|-;obtain⟨es',M',q1,q2,q3,q4,q5,q6⟩:=hj;exact⟨es',M',by rw[lY _ (by omega)];exact q1,by rw[lY _ (by omega)];exact q2,λm hm hne=>by rw[lY _ (by omega)];exact q3 m hm hne,by rw[lY _ (by omega)];exact q4,q5,q6⟩
   ·rw[hJ]at hj;obtain⟨es',M',q1,q2,q3,q4,q5,q6⟩:=hj;by_cases e1:m=H.next+1
    ·subst e1;rw[q1]at ho;cases ho;exact⟨by rw[F2];omega,dc⟩
    ·by_cases e2:m=H.next
     ·subst e2;rw[q2]at ho;cases ho;trivial
     ·by_cases e3:m=mo
      ·subst e3;rw[q4]at ho;cases ho;exact q5.nb _
      ·rw[q3 m (by omega) e3]at ho
       exact GO.fu (by omega) (hw.nb m o ho)
   ·intro i H1 r hr hN tG hj;rw[hJ]at hj;obtain⟨es',M',q1,q2,q3,q4,q5,q6⟩:=hj;obtain⟨e,he,rfl⟩:∃e,(bc p.ai[d].exp)[i]?=some e/\r=lv (aS e):=by
     simp only[je,List.getElem?_map,Option.map_eq_some_iff]at hr;obtain⟨e,h1,h2⟩:=hr;exact⟨e,h1,h2.symm⟩
    refine ei.ofN (c:=λl=>xD (some l) 169 (bf [] [] [])) ccR (λl=>by simp[Jp]) q1 ⟨_,by rw[Jp];exact func169⟩ (by rw[<-hx];rfl) (by rw[<-hx];simp) λhz l=>?_
    have xa:=(congrArg LP.lR hx).symm;have xb:=(congrArg LP.body hx).symm;have xe:=(congrArg LP.env hx).symm;have xp:=(congrArg LP.ps hx).symm;have xn:=(congrArg LP.nt hx).symm;dsimp only at xa xb xe xp xn;rw[xa,xb,xe,xp,xn]
    clear xa xb xe xp xn hx
    simp[aj,mI];refine⟨q1,?_⟩;generalize kp:x.go .busy none=ob;have c0:=q3 n (by omega) b1
    have c1:=q3 no (by omega) b2
    have c2:=q3 nl (by omega) b3
    have c3:∀m,m<H.next->(H1.set (H.next+1) ob).obj m=H1.obj m:=λm hm=>by rw[GH.ay,if_neg (by omega)]
    have wJ:H.next+1<H1.next:=by omega
    have gx:(bc p.ai[d].exp).take (i+1)=(bc p.ai[d].exp).take i++[e]:=by
     rw[List.take_add_one,he];rfl
    have NS:e∈bc p.ai[d].exp:=List.mem_of_getElem? he;have hsame:(H1.set (H.next+1) ob).set (H.next+1) (x.go .ready none)=H1:=by rw[GH.set_set,GH.iX q1]
    refine AW.ev (ccR l) ?_;simp;refine⟨λn2 n3 qD=>⟨⟨.busy,none,by rw[GH.aY,kp]⟩,H1,?_,GH.same.refl,?_⟩,λbJ2=>?_⟩
    ·rw[hsame];exact tG.drop (Nat.le_refl _)
    ·rw[hJ];refine⟨es',M',q1,q2,q3,q4,q5,q6.same λk hk=>?_⟩
     obtain⟨e',h1,h2,h3⟩:=hk;rw[gx,List.mem_append]at h1;rcases h1 with h1|h1
     ·exact .inl ⟨e',h1,h2,h3⟩
     ·simp only[List.mem_singleton]at h1;subst h1;rcases h2 with h2|h2
      ·exact absurd h2 n2
      ·exact absurd h2 n3
    have hr:qB e:=by unfold qB;omega
    have hix:=hp d hd e NS hr;have ac7:=oc (an p) e.name;obtain⟨kn,hkn⟩:∃kn:Nat,idx (an p) e.name=(kn:Int):=⟨(idx (an p) e.name).toNat,by omega⟩
    have jo:kn<p.ai.length:=by rw[hkn]at ac7;simp[an]at ac7;exact ac7
    have az5:Iy (an p) e.name=(kn:Int):=by unfold Iy;rw[if_neg (by omega),hkn]
    have hstep:gb p d kn:=⟨hd,e,NS,hr,hkn⟩;have BD:∀k:Nat,(∃e∈(bc p.ai[d].exp).take (i+1),qB e/\idx (an p) e.name=(k:Int))->(∃e∈(bc p.ai[d].exp).take i,qB e/\idx (an p) e.name=(k:Int))\/ k=kn:=λk hk=>by
     obtain⟨e',h1,h2,h3⟩:=hk;rw[gx,List.mem_append]at h1;rcases h1 with h1|h1
     ·exact .inl ⟨e',h1,h2,h3⟩
     ·simp only[List.mem_singleton]at h1;subst h1;exact .inr (by omega)
    have o0:(H1.set (H.next+1) ob).obj n=some (scp [.gm m1,.gm m2,.gm m3] ahead nodes):=by rw[c3 _ a0,c0];exact hs.sc
    have o1:(H1.set (H.next+1) ob).obj m2=some (.map (ee (an p) 0)):=by rw[c3 _ a5,q3 _ a5 hne.2.1];exact hs.o2
    have o2:(H1.set (H.next+1) ob).obj no=some (.box [.gm mo]):=by rw[c3 _ a1,c1];exact hno
    have o3:(H1.set (H.next+1) ob).obj nl=some (.box [D5 p n no nl]):=by rw[c3 _ a2,c2];exact hnl
    have o4:(H1.set (H.next+1) ob).obj mo=some (.map es'):=by rw[c3 _ a3];exact q4
    refine AW.draw (ccR l) [] (.q 5<|.q 0<|.q 1<|.q 2<|.q 3<|.q 4<|.q 6<|.q 7<|.q 8<|.done) (by kernel_rfl) ?_
    have hkey:=eq_true q5.key;have hlk:∀m,m<H.next->m<(H1.set (H.next+1) ob).next:=λm hm=>by rw[GH.aM];omega
    cases hmk:M' kn with
    |true=>
     simp[o0,o1,o2,o3,o4,scp,pV,kJ,az5,q5.get,hmk,hkey];refine λqD=>⟨⟨.busy,none,by rw[GH.aY,kp]⟩,H1,?_,GH.same.refl,?_⟩
     ·rw[hsame];exact tG.drop (Nat.le_refl _)
     ·rw[hJ];exact⟨es',M',q1,q2,q3,q4,q5,q6.same λk hk=>(BD k hk).imp id λe=>by rw[e];exact hmk⟩
    |false=>
     have PA:∀(X:GO) (m:Nat),m<H.next->m≠mo->((H1.set (H.next+1) ob).set mo X).obj m=H.obj m:=λX m hm hne=>by rw[GH.ay,if_neg hne,c3 m hm,q3 m hm hne]
     have o5:∀X:GO,((H1.set (H.next+1) ob).set mo X).obj nl=some (.box [D5 p n no nl]):=λX=>by rw[PA X _ a2 b3];exact hnl
     have hput:=q5.put kn;have hlt:Fa p.ai.length (ga M' kn)<u:=by
      have h1:=qW (n:=p.ai.length) jo hmk;have h2:=Hg (n:=p.ai.length) q6.sub;omega
     have gY:=ih _ hlt (ga M' kn) kn jo ((H1.set (H.next+1) ob).set mo (.map (cr (.int .i64 kn) (.d (.k (.bool true))) es'))) _ rfl
      ⟨by rw[PA _ _ a0 b1];exact hs.sc,by rw[PA _ _ a4 hne.1];exact hs.o1,by rw[PA _ _ a5 hne.2.1];exact hs.o2,by rw[PA _ _ a6 hne.2.2];exact hs.o3⟩
      (by rw[PA _ _ a1 b2];exact hno) (o5 _) GH.aY hput
     have QF:∀X m,m<H.next->m<((H1.set (H.next+1) ob).set mo X).next:=λX m hm=>by rw[GH.aM,GH.aM];omega
     simp[Be,ar]at gY;simp[o0,o1,o2,o3,o4,o5,scp,pV,kJ,az5,q5.get,hmk,hkey,D5,Be,ar];refine⟨⟨QF _ _ a0,QF _ _ a1,QF _ _ a2⟩,EC.of gY (λv H2 hR=>?_) (λv H2 hR=>?_)⟩
     ·obtain⟨_,es2,M2,vm,k1,k2⟩:=hR;rw[GH.set_set]at vm;subst vm;simp;have wJ:H.next+1≠mo:=by omega
      have Em:((H1.set (H.next+1) ob).set mo (.map es2)).set (H.next+1) (x.go .ready none)=H1.set mo (.map es2):=by
       rw[GH.set_comm (Ne.symm wJ),GH.set_set,GH.iX q1]
      have Px:gU (H1.set mo (.map es2)):=tG.set (by omega) (k1.nb _)
      refine λqD=>⟨⟨.busy,none,by rw[GH.ay,if_neg wJ,GH.aY,kp]⟩,H1.set mo (.map es2),?_,⟨rfl,λm hm=>by rw[GH.ay,if_neg (by omega)]⟩,?_⟩
      ·rw[Em];exact Px.drop (Nat.le_refl _)
      ·rw[hJ];refine⟨es2,M2,by rw[GH.ay,if_neg wJ];exact q1,by rw[GH.ay,if_neg (by omega)];exact q2,λm hm az8=>by rw[GH.ay,if_neg az8];exact q3 m hm az8,GH.aY,k1,q6.step hstep k2 BD⟩
     ·obtain⟨⟨_,q⟩,_⟩:=hR;cases q
  have hj0:J 0 ((H.add .qI).add (x.go .ready none)):=by
   rw[hJ];refine⟨es,M,by rw[GH.ax,GH.aq,if_pos rfl],by rw[GH.ax,GH.aq,if_neg (by omega),GH.ax,if_pos rfl],λm hm _=>by rw[GH.ax,GH.aq,if_neg (by omega),GH.ax,if_neg (by omega)],
    by rw[GH.ax,GH.aq,if_neg (by omega),GH.ax,if_neg (by omega)];exact hmo,hM,iU.start λk hk=>?_⟩
   obtain⟨e,he,_⟩:=hk;simp at he
  have hall:=wV hI (by omega) ((H.add .qI).add (x.go .ready none)) (by rw[GH.aq,GH.aq];omega) hj0
  refine hall.mono λce H2 hR=>?_
  obtain⟨hs2,hR⟩:=hR;cases ce with
  |ej x=>exact hR.elim
  |ret v=>
   rcases hR with hR|hR
   ·rw[hJ]at hR;obtain⟨es2,M2,q1,q2,q3,q4,q5,q6⟩:=hR;refine⟨.ready,none,q1,by simp,?_⟩
    simp[yz,F2];have ac0:H.next≠H.next+1:=by omega
    refine λhz=>⟨by rw[GH.ay,if_neg ac0];exact q2,H.set mo (.map es2),?_,⟨_,rfl⟩,es2,M2,rfl,q5,q6.end λk hk=>?_⟩
    ·have Px:=hw.set (o:=.map es2) a3 (q5.nb _);refine CC ?_ (λm hm=>?_) Px (by rw[GH.aM];exact Nat.le_refl _)
     ·have h1:=hs2.next;simp only[GH.aq]at h1;simp only[GH.aM];omega
     ·have hm':m<H.next:=hm;simp only[mg,GH.ay];rw[if_neg (show¬m=H.next by omega),if_neg (show¬m=H.next+1 by omega)]
      split
      ·rename_i e;subst e;exact q4.symm
      ·rename_i e;exact(q3 m hm' e).symm
    ·obtain⟨h1,e,h2,h3,h4⟩:=hk;exact⟨e,by rw[List.take_length];exact h2,h3,h4⟩
   ·exact hR.elim
end Go.Aft
end
section
set_option maxRecDepth 20000
namespace Go.Aft
open Go.Proofs.Tryz
open Classical in
noncomputable def pT (p:Prog) (d:Nat):Nat->Bool:=λk=>decide (Path (gb p) d k)
theorem lM.congr{es:List (Value×LV)}{M M':Nat->Bool}(h:lM es M)(he:∀k,M k=M' k):lM es M':=by
 have:M=M':=funext he;rw[<-this];exact h
theorem gU.add{H:GH}(h:gU H){o:GO}(ho:o.nb (H.next+1)):gU (H.add o):=by
 refine⟨λm hm=>?_,λm o' ho'=>?_⟩
 ·have hm':H.next+1<=m:=hm;rw[GH.ax,if_neg (by omega)];exact h.none m (by omega)
 ·rw[GH.ax]at ho'
  split at ho'
  ·cases ho';exact ho
  ·exact GO.fu (Nat.le_succ _) (h.nb m o' ho')
theorem uw(p:Prog)(hp:Ak p)(n m1 m2 m3:Nat)(ahead nodes:Int)(d:Nat)(hd:d<p.ai.length)(H:GH)(hs:Cp H n m1 m2 m3 p.az (an p) ahead nodes):
  aG prog 100 [.gp n 0,lv (ar p),aH d] H λce H'=>∃es,ce=.ret (.gm H.next)/\H'=H.add (.map es)/\lM es (pT p d):=by
 have cc:=au (p:=bf [3,4] [7,8] []);refine aG.bG (au (p:=bf [3,4] [7,8] [])) func100 rfl call100 (by rw[ntmps100];simp) rfl λhf hw=>?_
 have a0:=hw.lt hs.sc;have a4:=hw.lt hs.o1;have a5:=hw.lt hs.o2;have a6:=hw.lt hs.o3;have ne:=hs.ne;have g1:∀(X Y Z:GO),(((H.add X).add Y).add Z).obj H.next=some X:=λX Y Z=>by rw[GH.ax,if_neg (by simp only[GH.aq];omega),GH.ax,if_neg (by simp only[GH.aq];omega),GH.ax,if_pos rfl]
 have g2:∀(X Y Z:GO),(((H.add X).add Y).add Z).obj (H.next+1)=some Y:=λX Y Z=>by rw[GH.ax,if_neg (by simp only[GH.aq];omega),GH.ax,if_pos (by simp only[GH.aq])]
 have g3:∀(X Y Z:GO),(((H.add X).add Y).add Z).obj (H.next+2)=some Z:=λX Y Z=>by rw[GH.ax,if_pos (by simp only[GH.aq])]
 have g4:∀(X Y Z:GO) (m:Nat),m<H.next->(((H.add X).add Y).add Z).obj m=H.obj m:=λX Y Z m hm=>by
  rw[GH.ax,if_neg (by simp only[GH.aq];omega),GH.ax,if_neg (by simp only[GH.aq];omega),GH.ax,if_neg (by omega)]
 have s1:∀(X Y:GO) (Y':GO),((H.add X).add Y).set (H.next+1) Y'=(H.add X).add Y':=λX Y Y'=>by
  have:=GH.cV (H:=H.add X) (a:=Y) (b:=Y');simpa[GH.aq]using this
 have s2:∀(X Y Z:GO) (Z':GO),(((H.add X).add Y).add Z).set (H.next+2) Z'=((H.add X).add Y).add Z':=λX Y Z Z'=>by
  have:=GH.cV (H:=(H.add X).add Y) (a:=Z) (b:=Z');simpa[GH.aq]using this
 have h1:∀(X Y:GO),((H.add X).add Y).obj (H.next+1)=some Y:=λX Y=>by rw[GH.ax,if_pos (by simp only[GH.aq])]
 simp[ntmps100,results100,ar,GH.aq,s1,s2,h1,g1,g2,g3];refine⟨by omega,by omega,?_⟩
 have hl:=ON p hp n m1 m2 m3 (H.next+1) (H.next+1+1) H.next ⟨by omega,by omega,by omega⟩ ahead nodes _ (λ_=>false) d hd (((H.add (.map [])).add (.box [.gm H.next])).add (.box [D5 p n (H.next+1) (H.next+1+1)])) [] rfl
  ⟨by rw[g4 _ _ _ _ a0];exact hs.sc,by rw[g4 _ _ _ _ a4];exact hs.o1,by rw[g4 _ _ _ _ a5];exact hs.o2,by rw[g4 _ _ _ _ a6];exact hs.o3⟩ (g2 _ _ _) (g3 _ _ _) (g1 _ _ _) lM.nil
 simp[Be,D5,ar]at hl;refine EC.of hl (λv H2 hR=>?_) (λv H2 hR=>?_)
 ·obtain⟨_,es2,M2,rfl,k1,k2⟩:=hR;simp[GH.ay,g2,LR];have hM:=k1.congr (M':=pT p d) λk=>by
   rw[Bool.eq_iff_iff,k2.all];simp[pT]
  refine λhz=>⟨H.add (.map es2),?_,by rw[GH.aq];omega,es2,rfl,hM⟩
  refine CC (by simp[GH.aM,GH.aq]) (λm hm=>?_) (hw.add (k1.nb _)) (by rw[GH.aq];omega)
  have hm':m<H.next+1:=hm;rw[GH.ay];by_cases e:m=H.next
  ·subst e;rw[if_pos rfl,GH.ax,if_pos rfl]
  ·rw[if_neg e,g4 _ _ _ _ (by omega),GH.ax,if_neg e]
 ·obtain⟨⟨_,q⟩,_⟩:=hR;cases q
theorem I6(n:Nat)(H:GH)(R:DM->GH->Prop)(h:R .ret H):nq prog 152 [.gp n 0] H .ret R:=by
 refine nq.iQ aP func152 rfl call152 rfl rfl rfl (by rw[ntmps152];simp) (by rw[ntmps152];omega) rfl λhw=>?_
 simp[Lo,H9,ntmps152];refine EV.sound aP ?_;simp[BZ,Ia];exact⟨H,aL (Nat.le_refl _) (λ_ _=>rfl) hw,h⟩
theorem kV(n:Nat)(c:List LV)(H:GH)(h1:H.obj n=some (.box c))(hl:c.length=1)(R:DM->GH->Prop)
  (h:R (.aa ck) (H.set n (.box [.d (.k (.pointer none))]))):nq prog 152 [.gp n 0] H (.ej ck) R:=by
 refine nq.iQ aP func152 rfl call152 rfl rfl rfl (by rw[ntmps152];simp) (by rw[ntmps152];omega) rfl λhw=>?_
 simp[Lo,H9,ntmps152,ck];refine EV.sound aP ?_;obtain⟨x,rfl⟩:∃x,c=[x]:=by
  match c,hl with
  |[x],_=>exact⟨x,rfl⟩
 simp[BZ,Ia,h1];have lt:∀n o,H.obj n=some o->n<H.next:=λn o ho=>by
  rcases Nat.lt_or_ge n H.next with q|q
  ·exact q
  ·rw[hw n q]at ho;cases ho
 exact⟨_,CD (GM (Nat.le_refl _) hw λ_ _ q=>.inl q) (lt _ _ h1) (by simp[cD,LV.nb]),h⟩
end Go.Aft
end
section
set_option maxRecDepth 20000
namespace Go.Aft
open Go.Proofs.Tryz
def GH.jX(H:GH)(l:List GO):GH:=⟨λm=>if m<H.next then H.obj m else l[m-H.next]?,H.next+l.length⟩
@[simp] theorem GH.an2 {H:GH} {l:List GO}:(H.jX l).next=H.next+l.length:=rfl
theorem GH.TO{H:GH}(h:∀m,H.next<=m->H.obj m=none):H.jX []=H:=by
 obtain⟨f,k⟩:=H;simp only[GH.jX]at h|-
 congr 1;funext m
 split
 ·rfl
 ·rename_i q;rw[h m (by omega)];simp
@[simp] theorem GH.TP {H:GH} {l:List GO} {o:GO}:(H.jX l).add o=H.jX (l ++ [o]):=by
 simp only[GH.jX,GH.add]
 congr 1
 ·funext m
  simp only[eL];by_cases e:m=H.next+l.length
  ·subst e;rw[if_pos rfl,if_neg (by omega)];simp
  ·rw[if_neg e];by_cases q:m<H.next
   ·rw[if_pos q,if_pos q]
   ·rw[if_neg q,if_neg q,List.getElem?_append]
    split
    ·rfl
    ·rename_i r;rw[List.getElem?_eq_none (by omega),List.getElem?_eq_none (by simp;omega)]
 ·simp;omega
theorem GH.Kv{H:GH}(h:∀m,H.next<=m->H.obj m=none){o:GO}:H.add o=H.jX [o]:=by
 conv=>lhs;rw[<-GH.TO h]
 rw[GH.TP];rfl
@[simp] theorem GH.TN {H:GH} {l:List GO} {i:Nat}:(H.jX l).obj (H.next+i)=l[i]?:=by
 simp only[GH.jX];rw[if_neg (by omega)];congr 1;omega
@[simp] theorem GH.an1 {H:GH} {l:List GO}:(H.jX l).obj H.next=l[0]?:=GH.TN (i:=0)
theorem GH.bu{H:GH}{l:List GO}{m:Nat}(h:m<H.next):(H.jX l).obj m=H.obj m:=if_pos h
@[simp] theorem GH.Ck {H:GH} {l:List GO} {i:Nat} {o:GO}:(H.jX l).set (H.next+i) o=if i < l.length then H.jX (l.set i o) else (H.jX l).set (H.next+i) o:=by
 split
 ·rename_i hi;simp only[GH.jX,GH.set]
  congr 1
  ·funext m
   simp only[eL];by_cases e:m=H.next+i
   ·subst e;rw[if_pos rfl,if_neg (by omega)]
    simp[hi]
   ·rw[if_neg e]
    split
    ·rfl
    ·rw[List.getElem?_set,if_neg (by omega)]
  ·simp
 ·rfl
theorem GH.pq{H:GH}{a o:GO}{l:List GO}:(H.jX (a::l)).set H.next o=H.jX (o::l):=by
 have:=GH.Ck (H:=H) (l:=a::l) (i:=0) (o:=o);simpa using this
attribute [-simp] GH.Ck
theorem GH.mw{H:GH}{l:List GO}{i:Nat}{o:GO}(h:i<l.length):(H.jX l).set (H.next+i) o=H.jX (l.set i o):=by
 rw[GH.Ck,if_pos h]
mutual
theorem w8{az ai:List cq}{a:Int}:∀(x:bz) (depth left l:Int),fU az ai a x depth left=some l->∀e∈bc x,qB e->0<=idx ai e.name
 |.mk op name n fold aD kids,depth,left,l,h,e,he,hr=>by
  rw[fU]at h
  split at h
  ·rename_i hc
   split at h
   ·rename_i l1 BA;rw[bc]at he;rcases List.mem_cons.1 he with rfl|he
    ·have:=hc.2.2.2;unfold dD at this;unfold qB at hr;simp only[bz.YA,bz.V3]at hr|-;rw[if_neg (by omega)]at this
     rcases hr with hr|hr
     ·rw[if_pos hr]at this;exact(of_decide_eq_true this).1
     ·rw[if_neg (by omega),if_pos hr]at this;exact of_decide_eq_true this
    ·exact Bm kids _ _ _ h e he hr
   ·cases h
  ·cases h
theorem Bm{az ai:List cq}{a:Int}:∀(x:List bz) (depth left l:Int),eW az ai a x depth left=some l->∀e∈bn x,qB e->0<=idx ai e.name
 |[],depth,left,l,h,e,he,hr=>by rw[bn]at he;cases he
 |k::ks,depth,left,l,h,e,he,hr=>by
  rw[eW]at h
  split at h
  ·rename_i l' hl;rw[bn,List.mem_append]at he;rcases he with he|he
   ·exact w8 k _ _ _ hl e he hr
   ·exact Bm ks _ _ _ h e he hr
  ·cases h
end
class DFp(α:Type) where
 df:α->List AD
inductive NXD{α:Type}[X:LSp α][D:DFp α][b:LB](nt:Nat)(s:S):Prop
 |mk (a:α) (h1:X.m a<b.n) (h2:X.I a) (h3:(X.st a).at nt (D.df a) s)
theorem NXD.go{α:Type}{st:α->LS}{m:α->Nat}{I:α->Prop}{df:α->List AD}{n nt:Nat}{s:S}(a:α)(h1:m a<n)(h2:I a)(h3:(st a).at nt (df a) s):@NXD α ⟨st,m,I⟩ ⟨df⟩ ⟨n⟩ nt s:=@NXD.mk α ⟨st,m,I⟩ ⟨df⟩ ⟨n⟩ nt s a h1 h2 h3
theorem AW.YC{P:Program}{c:Cx}{x:Code}{s:S}{Q:QT}{α:Type}(hc:c.ok P)(st:α->LS)(df:α->List AD)(m:α->Nat)(I:α->Prop)(a₀:α)(h₀:I a₀/\(st a₀).at s.nt (df a₀) s)
  (round:∀a,I a->@EV P c ⟨x⟩ ((st a).s s.nt (df a)) ⟨@TH ⟨λs'=>@NXD α ⟨st,m,I⟩ ⟨df⟩ ⟨m a⟩ s.nt s'⟩ Q⟩):@AW P c.rd ⟨.loop x⟩ s Q:=by
 refine fh.loop (λn s'=>∃a,m a=n/\I a/\(st a).at s.nt (df a) s') ⟨m a₀,a₀,rfl,h₀.1,h₀.2⟩ λn s' ⟨a,hm,hI,qE⟩=>?_
 obtain⟨_,_,_,q1,q2⟩:=id qE;refine fh.at (st a) (by rw[q1,q2];exact qE) ?_
 rw[q1,q2];refine(EV.sound hc (round a hI)).mono λe s2 q=>?_
 cases e with
 |normal=>obtain⟨a',h1,h2,h3⟩:=q;exact⟨m a',hm▸h1,a',rfl,h2,h3⟩
 |_=>exact q
def uY(H:GH)(ms:List Nat):GH:=ms.foldl GH.del H
theorem jl:∀(ms:List Nat) (H:GH),(uY H ms).next=H.next
 |[],H=>rfl
 |n::ms,H=>by simp only[uY,List.foldl_cons];exact jl ms (H.del n)
theorem iN:∀(ms:List Nat) (H:GH) (k:Nat),k∉ms->(uY H ms).obj k=H.obj k
 |[],H,k,_=>rfl
 |n::ms,H,k,h=>by
  simp only[uY,List.foldl_cons];have:=iN ms (H.del n) k (λe=>h (List.mem_cons_of_mem _ e))
  simp only[uY]at this;rw[this,GH.nO,if_neg (λe=>h (by simp[e]))]
theorem gU.del{H:GH}(h:gU H)(n:Nat):gU (H.del n):=by
 refine⟨λm hm=>?_,λm o ho=>?_⟩
 ·have hm':H.next<=m:=hm;rw[GH.nO];split
  ·rfl
  ·exact h.none m hm'
 ·rw[GH.nO]at ho
  split at ho
  ·cases ho
  ·exact h.nb m o ho
theorem gU.uY:∀(ms:List Nat) {H:GH},gU H->gU (uY H ms)
 |[],H,h=>h
 |n::ms,H,h=>by
  have:=gU.uY ms (h.del n);simpa[Go.Aft.uY]using this
theorem AW.aq4{P:Program}{c:Cx}{x:Code}{s:S}{Q:QT}(h:gU s.H->@AW P c.rd ⟨x⟩ s Q):@AW P c.rd ⟨x⟩ s Q:=λE a w hs=>h hs.gU E a w hs
theorem lU{P:Program}{c:Cx}{rs:List ResultVar}{s:S}{H0:GH}{R:CE->GH->Prop}{ds:List AD}{m:DM}:∀(ms:List Nat) (H:GH),ms.Nodup->(∀n∈ms,H.obj n=some .qI)->fw P c rs s H0 R ds m (uY H ms)->fw P c rs s H0 R (ms.map .mark++ds) m H
 |[],H,_,_,h=>h
 |n::ms,H,qQ,hm,h=>by
  rw[List.nodup_cons]at qQ;refine⟨hm n (by simp),lU ms (H.del n) qQ.2 (λk hk=>?_) h⟩
  rw[GH.nO,if_neg (λe=>qQ.1 (by rw[<-e];exact hk))]
  exact hm k (by simp[hk])
open Classical in
theorem rf(p:Prog)(lW:∀s∈p.az++an p,cN s)(H:GH):
  aG prog 91 [lv (ar p)] H λce H'=>if formed p then(∃n,ce=.ret (.gp n 0)/\Ak p/\∃m1 m2 m3 a k,H.next<=n/\Cp H' n m1 m2 m3 p.az (an p) a k)/\H.next<=H'.next/\∀m,m<H.next->H'.obj m=H.obj m else ce=.ret (.d (.k (.pointer none)))/\H'=H:=by
 have cc:=gF (r:=none) (f:=91) (p:=bf [1] [2,28] []);refine aG.dG (gF (r:=none) (f:=91) (p:=bf [1] [2,28] [])) func91 rfl call91 (by rw[ntmps91];simp) rfl λhf hw=>?_
 simp[ntmps91,results91,ar]at hf|-;refine AW.seq cc ?_;simp;refine AW.seq cc ?_;simp[GH.aq];refine AW.seq cc ?_;simp;have hdn:∀H2:GH,H.next<=H2.next->(∀m,m<H.next->H2.obj m=H.obj m)->Drop H H2 H:=λH2 h1 h2=>aL h1 h2 hw.none
 rw[GH.Kv hw.none];refine EC.need (eo _ _) (λhb v=>?_) (λhb=>?_)
 rotate_left
 ·simp only[Bool.and_eq_true,decide_eq_true_eq]at hb;have hnf:¬formed p:=by
   rintro⟨⟨l,hl⟩,_⟩;unfold fF at hl;rw[if_neg (by omega)]at hl
   cases hl
  simp[hnf];refine λhz=>kV _ _ _ (by simp;rfl) rfl _ ?_
  simp[GH.pq];exact hdn _ (by simp) λm hm=>GH.bu hm
 simp only[Bool.and_eq_true,decide_eq_true_eq]at hb;simp;refine AW.seq cc ?_;simp;refine EC.of (Ht _) (λv H' hR=>?_) (λv H' hR=>?_)
 rotate_left
 ·cases hR.1
 obtain⟨q,rfl⟩:=hR;cases q;simp[GH.pq,GH.mw];refine AW.at (c:=xD none 91 (bf [1] [2,28] [])) ⟨[(1,.ip ((ar p).map .d) 0),(2,.gp H.next 0)],[],H.jX [.box [.gp (H.next+2) 0],.map jY,scp [.d (.k (.map none)),.d (.k (.map none)),.gm (H.next+1)] 0 0]⟩ (by simp[ar,scp]) ?_
 have hs1:∀s∈p.az,cN s:=λs hs=>lW s (List.mem_append_left _ hs)
 have hs2:∀s∈an p,cN s:=λs hs=>lW s (List.mem_append_right _ hs)
 have wJ:=tR p.az [] (.d (.k (.map none))) (H.jX [.box [.gp (H.next+2) 0],.map jY,scp [.d (.k (.map none)),.d (.k (.map none)),.gm (H.next+1)] 0 0]) hs1 (.inl ⟨rfl,rfl⟩);simp at wJ;have bl9:¬AS p.az []->¬formed p:=λq=>by
  rintro⟨⟨l,hl⟩,_⟩;unfold fF at hl
  split at hl
  ·rename_i hd;refine q λi h=>?_
   have:=hd.2.2.2 i (by simp;omega)
   rw[List.getElem_append_left h,List.take_append_of_le_length (by omega)]at this
   exact⟨this.1,this.2,by simp⟩
  ·cases hl
 by_cases lP:AS p.az []
 rotate_left
 ·simp only[if_neg lP]at wJ;refine AW.seq cc ?_;refine AW.draw cc [] (.q 1<|.q 2<|.f (.cons 0 (.f<|.one 3<|.q 4<|.q 5<|.q 6<|.f<|.one 7<|.done) (.cons 3 (.q 0<|.q 4<|.q 5<|.q 6<|.f<|.one 7<|.done) (.nil)))) (by kernel_rfl) ?_
  simp[ar];refine⟨yR.of wJ (λv H' hR tH=>by cases hR.1) (λv H' env hR lY=>?_),yR.of wJ (λv H' hR tH=>by cases hR.1) (λv H' env hR lY=>?_)⟩
  all_goals
   obtain⟨q,rfl⟩:=hR;cases q;have hv:env 2=.gp H.next 0:=by
    have:=lY 2 rfl;simpa using this
   simp[bl9 lP,hv];refine λhz=>kV _ _ _ (by simp;rfl) rfl _ ?_
   simp[GH.pq,hv];exact hdn _ (by simp) λm hm=>GH.bu hm
 simp only[if_pos lP]at wJ;refine AW.join (c:=xD none 91 (bf [1] [2,28] [])) (λ_:Unit=>⟨[(1,.ip ((ar p).map .d) 0),(2,.gp H.next 0)],[],H.jX [.box [.gp (H.next+2) 0],.map jY,scp [.gm (H.next+3),.d (.k (.map none)),.gm (H.next+1)] 0 0,.map (ee p.az 0)]⟩)
  (λ_=>True) ?_ λ_ _=>?_
 ·refine AW.draw cc [] (.q 1<|.q 2<|.f (.cons 0 (.f<|.one 3<|.q 4<|.q 5<|.q 6<|.f<|.one 7<|.done) (.cons 3 (.q 0<|.q 4<|.q 5<|.q 6<|.f<|.one 7<|.done) (.nil)))) (by kernel_rfl) ?_
  simp[ar];refine⟨yR.of wJ (λv H' hR tH=>?_) (λv H' env hR lY=>by cases hR.1),yR.of wJ (λv H' hR tH=>?_) (λv H' env hR lY=>by cases hR.1)⟩
  all_goals
   obtain⟨q,rfl⟩:=hR;cases q;simp[GH.mw,scp];exact JN.go () trivial (by simp[scp,ar])
 have hea:aC prog 93 [sl (p.ai.map fm),.fn (.func 94) [] []] (sl ((an p).map rS)):=OP p.ai (by omega)
 simp only[au1]at hea;have hn2:=tR (an p) p.az (.gm (H.next+3)) (H.jX [.box [.gp (H.next+2) 0],.map jY,scp [.gm (H.next+3),.d (.k (.map none)),.gm (H.next+1)] 0 0,.map (ee p.az 0)]) hs2 (.inr ⟨_,rfl,by simp⟩)
 simp[scp]at hn2;have bl8:¬AS (an p) p.az->¬formed p:=λq=>by
  rintro⟨⟨l,hl⟩,_⟩;unfold fF at hl
  split at hl
  ·rename_i hd;refine q λi h=>?_
   have:=hd.2.2.2 (p.az.length+i) (by simp;omega)
   rw[List.getElem_append_right (by omega),List.take_append,List.take_of_length_le (by omega)]at this
   simp at this;exact⟨this.1,this.2.2,this.2.1⟩
  ·cases hl
 by_cases hk2:AS (an p) p.az
 rotate_left
 ·simp only[if_neg hk2]at hn2;refine AW.seq cc ?_;refine AW.draw cc [(2,.n),(3,.n)] (.q 1<|.q 2<|.q 3<|.f (.cons 0 (.f<|.one 4<|.q 5<|.q 6<|.q 7<|.q 8<|.f<|.one 9<|.q 10<|.q 11<|.q 12<|.f<|.one 13<|.done) (.cons 4 (.q 5<|.q 6<|.q 7<|.q 8<|.f (.cons 0 (.f<|.one 9<|.q 10<|.q 11<|.q 12<|.f<|.one 13<|.done) (.cons 9 (.q 0<|.q 10<|.q 11<|.q 12<|.f<|.one 13<|.done) (.nil)))) (.nil)))) (by kernel_rfl) ?_
  simp[ar];refine FC.aJ hea ?_;simp[scp];refine⟨yR.of hn2 (λv H' hR tH=>by cases hR.1) (λv H' env hR lY=>?_),yR.of hn2 (λv H' hR tH=>by cases hR.1) (λv H' env hR lY=>?_),yR.of hn2 (λv H' hR tH=>by cases hR.1) (λv H' env hR lY=>?_)⟩
  all_goals
   obtain⟨q,rfl⟩:=hR;cases q;have hv:env 2=.gp H.next 0:=by
    have:=lY 2 rfl;simpa using this
   simp[bl8 hk2,hv];refine λhz=>kV _ _ _ (by simp;rfl) rfl _ ?_
   simp[GH.pq,hv];exact hdn _ (by simp) λm hm=>GH.bu hm
 simp only[if_pos hk2]at hn2;refine AW.join (c:=xD none 91 (bf [1] [2,28] [])) (λ_:Unit=>⟨[(1,.ip ((ar p).map .d) 0),(2,.gp H.next 0)],[],H.jX [.box [.gp (H.next+2) 0],.map jY,scp [.gm (H.next+3),.gm (H.next+4),.gm (H.next+1)] 0 0,.map (ee p.az 0),.map (ee (an p) 0)]⟩)
  (λ_=>True) ?_ λ_ _=>?_
 ·refine AW.draw cc [(2,.n),(3,.n)] (.q 1<|.q 2<|.q 3<|.f (.cons 0 (.f<|.one 4<|.q 5<|.q 6<|.q 7<|.q 8<|.f<|.one 9<|.q 10<|.q 11<|.q 12<|.f<|.one 13<|.done) (.cons 4 (.q 5<|.q 6<|.q 7<|.q 8<|.f (.cons 0 (.f<|.one 9<|.q 10<|.q 11<|.q 12<|.f<|.one 13<|.done) (.cons 9 (.q 0<|.q 10<|.q 11<|.q 12<|.f<|.one 13<|.done) (.nil)))) (.nil)))) (by kernel_rfl) ?_
  simp[ar];refine FC.aJ hea ?_;simp[scp];refine⟨yR.of hn2 (λv H' hR tH=>?_) (λv H' env hR lY=>by cases hR.1),yR.of hn2 (λv H' hR tH=>?_) (λv H' env hR lY=>by cases hR.1),yR.of hn2 (λv H' hR tH=>?_) (λv H' env hR lY=>by cases hR.1)⟩
  all_goals
   obtain⟨q,rfl⟩:=hR;cases q;simp[GH.mw,scp];exact JN.go () trivial (by simp[scp,ar])
 have SD:o7 (p.az++an p):=by
  intro i h;by_cases q:i<p.az.length
  ·rw[List.getElem_append_left q,List.take_append_of_le_length (by omega)]
   exact⟨(lP i q).1,(lP i q).2.1⟩
  ·rw[List.getElem_append_right (by omega),List.take_append,List.take_of_length_le (by omega)]
   have:=hk2 (i-p.az.length) (by simp at h;omega)
   refine⟨this.1,?_⟩;rw[List.mem_append];rintro(q2|q2)
   ·exact this.2.2 q2
   ·exact this.2.1 q2
 have SE:fF p=jh p.az (an p) p.ai 0 60:=by
  unfold fF;rw[if_pos ⟨by omega,by omega,by omega,SD⟩]
 have zb:∀ahead nodes:Int,Cp (H.jX [.box [.gp (H.next+2) 0],.map jY,scp [.gm (H.next+3),.gm (H.next+4),.gm (H.next+1)] ahead nodes,.map (ee p.az 0),.map (ee (an p) 0)]) (H.next+2) (H.next+3) (H.next+4) (H.next+1) p.az (an p) ahead nodes:=
  λahead nodes=>⟨by simp,by simp,by simp,by simp⟩
 refine AW.join (c:=xD none 91 (bf [1] [2,28] [])) (λa:Int×Int=>⟨[(1,.ip ((ar p).map .d) 0),(2,.gp H.next 0)],[],H.jX [.box [.gp (H.next+2) 0],.map jY,scp [.gm (H.next+3),.gm (H.next+4),.gm (H.next+1)] a.1 (60-a.2),.map (ee p.az 0),.map (ee (an p) 0)]⟩)
  (λa=>jh p.az (an p) p.ai 0 60=some a.2) (AW.ev cc ?_) λa ha=>?_
 ·simp[ar];refine AW.aV cc (λa:Nat×Int×Int=>⟨[(1,.ip ((ar p).map .d) 0),(2,.gp H.next 0),(50,.d (.sl (p.ai.map fm))),(51,aH p.ai.length),(52,aH a.1)],[],
    H.jX [.box [.gp (H.next+2) 0],.map jY,scp [.gm (H.next+3),.gm (H.next+4),.gm (H.next+1)] a.2.1 (60-a.2.2),.map (ee p.az 0),.map (ee (an p) 0)]⟩) (λa=>p.ai.length-a.1)
   (λa=>a.1<=p.ai.length/\0<=a.2.2/\a.2.2<=60/\jh p.az (an p) p.ai 0 60=jh p.az (an p) (p.ai.drop a.1) a.1 a.2.2) (0,0,60) ⟨⟨by simp,by simp,by simp,by simp⟩,by simp[ar]⟩ ?_
  rintro⟨i,ahead,left⟩ ⟨hi,hl0,BA,hI⟩;simp only at hi hl0 BA hI;simp[ar];refine⟨λh=>?_,λh=>?_⟩
  ·have hd:=List.drop_eq_getElem_cons h;rw[hd,jh]at hI;simp[h,List.getElem?_eq_getElem h,fm,aj,scp,GH.mw];have hx:=Hw p.az (an p) p.ai[i].exp _ _ _ _ _ i (60-left) 1 (zb i (60-left)) (by omega) (by omega) (by omega) (by omega)
   rw[show 60-(60-left)=left by omega]at hx
   simp[aj,scp]at hx;refine EC.of hx (λv H' hR=>?_) (λv H' hR=>?_)
   ·cases hl:fU p.az (an p) i p.ai[i].exp 1 left with
    |none=>rw[hl]at hR;cases hR.1
    |some l=>
     rw[hl]at hR hI;have hle:=lV _ _ _ _ hl;obtain⟨_,hH⟩:=hR;simp[GH.mw]at hH;subst hH;simp[aB h hf.2.1];exact NX.go (i+1,i,l) (by simp;omega) ⟨h,hle.1,by simp only;omega,by simpa using hI⟩ (by simp[ar,scp])
   ·cases hl:fU p.az (an p) i p.ai[i].exp 1 left with
    |some l=>rw[hl]at hR;obtain⟨⟨_,q⟩,_⟩:=hR;cases q
    |none=>
     rw[hl]at hR hI;obtain⟨q,m,hH⟩:=hR;simp[GH.mw]at hH;subst hH;cases q;have hnf:¬formed p:=by
      rintro⟨⟨l,hl⟩,_⟩;rw[SE,hI]at hl;cases hl
     simp[hnf];refine λhz=>kV _ _ _ (by simp;rfl) rfl _ ?_
     simp[GH.pq];exact hdn _ (by simp) λm hm=>GH.bu hm
  ·have:p.ai.drop i=[]:=List.drop_eq_nil_of_le h;rw[this,jh]at hI;exact JN.go (ahead,left) hI (by simp[ar])
 ·have hrefs:Ak p:=by
   intro i h e he hr;obtain⟨l1,l2,q1,q2,q3⟩:=vT _ _ _ _ ha (by omega) i h
   exact w8 _ _ _ _ q1 e he hr
  refine AW.ev cc ?_;simp[ar];obtain⟨H5,hH5⟩:∃H5,H5=H.jX [.box [.gp (H.next+2) 0],.map jY,scp [.gm (H.next+3),.gm (H.next+4),.gm (H.next+1)] a.1 (60-a.2),.map (ee p.az 0),.map (ee (an p) 0)]:=⟨_,rfl⟩;have h5n:H5.next=H.next+5:=by rw[hH5];simp
  have h5l:∀m,m<H.next->H5.obj m=H.obj m:=λm hm=>by rw[hH5];exact GH.bu hm
  have h5b:H5.obj H.next=some (.box [.gp (H.next+2) 0]):=by rw[hH5];simp
  have h5s:=zb a.1 (60-a.2);rw[<-hH5]at h5s|-
  clear hH5
  have hform:Fs p->formed p:=λq=>⟨⟨_,SE.trans ha⟩,q⟩
  refine AW.YC cc (λb:Nat×GH×List Nat=>⟨[(1,.ip ((ar p).map .d) 0),(2,.gp H.next 0),(67,.d (.sl (p.ai.map fm))),(68,aH p.ai.length),(69,aH b.1)],[],b.2.1⟩) (λb=>b.2.2.map .mark++[.call 152 [] [.gp H.next 0]]) (λb=>p.ai.length-b.1)
   (λb=>b.1<=p.ai.length/\(∀j (h:j<p.ai.length),j<b.1->Path (gb p) j j->∀e∈bc p.ai[j].exp,bJ e=false)/\H.next+5<=b.2.1.next/\(∀m,m<H.next+5->b.2.1.obj m=H5.obj m)/\b.2.2.Nodup/\∀n∈b.2.2,H.next+5<=n/\n<b.2.1.next/\b.2.1.obj n=some .qI)
   (0,H5,[]) ⟨⟨by simp,λj hj h=>absurd h (by simp),by simp[h5n],λm hm=>rfl,by simp,by simp⟩,by simp[ar]⟩ ?_
  rintro⟨i,H',ms⟩ ⟨hi,BD,hn',ho',qQ,QE⟩;simp only at hi BD hn' ho' qQ QE;simp[ar];have hb0:H'.obj H.next=some (.box [.gp (H.next+2) 0]):=by rw[ho' _ (by omega)];exact h5b
  have hs':Cp H' (H.next+2) (H.next+3) (H.next+4) (H.next+1) p.az (an p) a.1 (60-a.2):=
   ⟨by rw[ho' _ (by omega)];exact h5s.sc,by rw[ho' _ (by omega)];exact h5s.o1,by rw[ho' _ (by omega)];exact h5s.o2,by rw[ho' _ (by omega)];exact h5s.o3⟩
  refine⟨λh=>?_,λh=>?_⟩
  ·have NJ:=uw p hrefs _ _ _ _ _ _ i h H' hs';simp[ar]at NJ;simp[h,List.getElem?_eq_getElem h,fm,aj,hb0];refine⟨by omega,EC.of NJ (λv H2 hR=>?_) (λv H2 hR=>?_)⟩
   rotate_left
   ·cases hR.1
   obtain⟨q,es,vm,hM⟩:=hR;cases q;have hkey:=eq_true hM.key;have Ss:H2.obj H'.next=some (.map es):=by rw[vm,GH.ax,if_pos rfl]
   have QG:∀m,m<H'.next->H2.obj m=H'.obj m:=λm hm=>by rw[vm,GH.ax,if_neg (by omega)]
   have hn2:H2.next=H'.next+1:=by rw[vm];rfl
   cases hrb:pT p i i with
   |false=>
    simp[Ss,hkey,hM.get,hrb];refine NXD.go (i+1,H2,ms) (by simp;omega) ⟨h,λj hj hji hp=>?_,by simp only;omega,λm hm=>by simp only;rw[QG m (by omega)];exact ho' m hm,qQ,λn hn=>?_⟩ (by simp[ar,aB h hf.2.1])
    ·by_cases e:j=i
     ·subst e;simp[pT]at hrb;exact absurd hp hrb
     ·exact BD j hj (by simp only at hji;omega) hp
    ·have:=QE n hn;simp only;exact⟨this.1,by omega,by rw[QG n this.2.1];exact this.2.2⟩
   |true=>
    have az1:Path (gb p) i i:=by simp[pT]at hrb;exact hrb
    have By:=pK p.ai[i].exp;simp[aj]at By;simp[Ss,hkey,hM.get,hrb];refine EC.aJ By ?_;simp;refine AW.at (c:=xD none 91 (bf [1] [2,28] [])) ⟨[(1,.ip ((ar p).map .d) 0),(2,.gp H.next 0),(67,.d (.sl (p.ai.map fm))),(68,aH p.ai.length),(69,aH i),(82,iF p.ai[i].exp)],[],H2⟩ (by simp[ar,iF,LV.only,aj]) ?_
    refine AW.aq4 (c:=xD none 91 (bf [1] [2,28] [])) λqD=>?_
    simp only[LS.CP]at qD;refine fh.rangeFunc rfl rfl (f:=164) (first:=[]) (cap:=[.ip ((aS p.ai[i].exp).map .d) 0]) (by simp[iF]) (by simp[iF]) [] (by simp[ny]) (by simp[ny]) (by simp[cD,LV.nb]) ?_
    simp only[LS.CP,List.nil_append,List.singleton_append];generalize hx:LP.mk _ _ _ _ _ _ _=x;have Jp:x.f=91:=by rw[<-hx]
    have F2:x.d=H2.next:=by rw[<-hx]
    have dc:∀t,(x.env t).nb (H2.next+2):=by
     rw[<-hx];intro t;simp[LV.nb]
    obtain⟨J,hJ⟩:∃J:Nat->GH->Prop,J=λk Hk=>Hk.obj (H2.next+1)=some (x.go .ready none)/\Hk.obj H2.next=some .qI/\(∀m,m<H2.next->Hk.obj m=H2.obj m)/\∀e∈(bc p.ai[i].exp).take k,bJ e=false:=⟨_,rfl⟩
    obtain⟨Pn,hPn⟩:∃Pn:LV->GH->Prop,Pn=λy Hk=>y=ck/\(∃st pend,Hk.obj (H2.next+1)=some (x.go st pend))/\Hk.obj H2.next=some .qI/\(∀m,m<H2.next->Hk.obj m=H2.obj m)/\∃e∈bc p.ai[i].exp,bJ e=true:=⟨_,rfl⟩
    have ccR:∀l,(xD (some l) 91 (bf [1] [2,28] [])).ok prog:=λl=>gF
    have hI:Iter prog (H2.next+1) (H2.next+2) (je p.ai[i].exp) J (λ_=>False) Pn:=by
     refine⟨λ{i H1 H2} hj lY _=>?_,λh=>h.elim,λ{y Ha Hb} hj lY tH=>?_,λ{i H1} hj m o hm ho=>?_,λh=>h.elim,λ{y Ha} hj m o hm ho=>?_,?_⟩
     ·rw[hJ]at hj|-;obtain⟨q1,q2,q3,q4⟩:=hj;exact⟨by rw[lY _ (by omega)];exact q1,by rw[lY _ (by omega)];exact q2,λm hm=>by rw[lY _ (by omega)];exact q3 m hm,q4⟩
     ·rw[hPn]at hj|-;obtain⟨q0,⟨st,pe,q1⟩,q2,q3,q4⟩:=hj;exact⟨by rw[q0];simp[ck,LV.nb],q0,⟨st,pe,by rw[lY _ (by omega)];exact q1⟩,by rw[lY _ (by omega)];exact q2,λm hm=>by rw[lY _ (by omega)];exact q3 m hm,q4⟩
     ·rw[hJ]at hj;obtain⟨q1,q2,q3,q4⟩:=hj;by_cases e1:m=H2.next+1
      ·subst e1;rw[q1]at ho;cases ho;exact⟨by rw[F2];omega,dc⟩
      ·by_cases e2:m=H2.next
       ·subst e2;rw[q2]at ho;cases ho;trivial
       ·rw[q3 m (by omega)]at ho;exact GO.fu (by omega) (qD.nb m o ho)
     ·rw[hPn]at hj;obtain⟨q0,⟨st,pe,q1⟩,q2,q3,q4⟩:=hj;by_cases e1:m=H2.next+1
      ·subst e1;rw[q1]at ho;cases ho;exact⟨by rw[F2];omega,dc⟩
      ·by_cases e2:m=H2.next
       ·subst e2;rw[q2]at ho;cases ho;trivial
       ·rw[q3 m (by omega)]at ho;exact GO.fu (by omega) (qD.nb m o ho)
     ·intro k H1 r hr hN tG hj;rw[hJ]at hj;obtain⟨q1,q2,q3,q4⟩:=hj;obtain⟨e,he,rfl⟩:∃e,(bc p.ai[i].exp)[k]?=some e/\r=lv (aS e):=by
       simp only[je,List.getElem?_map,Option.map_eq_some_iff]at hr;obtain⟨e,h1,h2⟩:=hr;exact⟨e,h1,h2.symm⟩
      have gx:(bc p.ai[i].exp).take (k+1)=(bc p.ai[i].exp).take k++[e]:=by
       rw[List.take_add_one,he];rfl
      have NS:e∈bc p.ai[i].exp:=List.mem_of_getElem? he;refine ei.ofN (c:=λl=>xD (some l) 91 (bf [1] [2,28] [])) ccR (λl=>by simp[Jp]) q1 ⟨_,by rw[Jp];exact func91⟩ (by rw[<-hx];rfl) (by rw[<-hx];simp) λhz l=>?_
      have xa:=(congrArg LP.lR hx).symm;have xb:=(congrArg LP.body hx).symm;have xe:=(congrArg LP.env hx).symm;have xp:=(congrArg LP.ps hx).symm;have xn:=(congrArg LP.nt hx).symm;dsimp only at xa xb xe xp xn;rw[xa,xb,xe,xp,xn]
      clear xa xb xe xp xn hx
      simp[aj,mI];refine⟨q1,?_⟩;generalize kp:x.go .busy none=ob;refine AW.ev (ccR l) ?_;simp;have aA4:(e.op !=14&&(e.op !=7||decide (0<=e.n)))= !bJ e:=by
       unfold bJ;by_cases e1:e.op=14
       ·simp[e1]
       ·by_cases e2:e.op=7
        ·by_cases e3:0<=e.n
         ·simp[e2,e3]
         ·simp[e2,e3];omega
        ·simp[e1,e2]
      rw[aA4];refine⟨λq=>⟨q,λq2=>⟨q,q2⟩⟩,EC.need (eo _ _) (λhb v=>?_) (λhb=>?_)⟩
      ·have hb':bJ e=false:=by simpa using hb
       simp;refine λPx=>⟨⟨.busy,none,by rw[GH.aY,kp]⟩,H1,?_,GH.same.refl,?_⟩
       ·rw[GH.set_set,GH.iX q1];exact tG.drop (Nat.le_refl _)
       ·rw[hJ];refine⟨q1,q2,q3,λe' he'=>?_⟩
        rw[gx,List.mem_append]at he';rcases he' with he'|he'
        ·exact q4 e' he'
        ·simp only[List.mem_singleton]at he';rw[he'];exact hb'
      ·have hb':bJ e=true:=by simpa using hb
       simp;refine λPx=>⟨_,Px.drop (by rw[GH.aM];exact Nat.le_refl _),by simp[ck,LV.nb],⟨rfl,λm hm=>by rw[GH.ay,if_neg (by omega)]⟩,?_⟩
       rw[hPn];exact⟨rfl,⟨.busy,none,by rw[GH.aY,kp]⟩,by rw[GH.ay,if_neg (by omega)];exact q2,λm hm=>by rw[GH.ay,if_neg (by omega)];exact q3 m hm,e,NS,hb'⟩
    have hj0:J 0 ((H2.add .qI).add (x.go .ready none)):=by
     rw[hJ];exact⟨by rw[GH.ax,GH.aq,if_pos rfl],by rw[GH.ax,GH.aq,if_neg (by omega),GH.ax,if_pos rfl],λm hm=>by rw[GH.ax,GH.aq,if_neg (by omega),GH.ax,if_neg (by omega)],by simp⟩
    have hall:=wV hI (by omega) ((H2.add .qI).add (x.go .ready none)) (by rw[GH.aq,GH.aq];omega) hj0
    refine hall.mono λce H3 hR=>?_
    obtain⟨hs3,hR⟩:=hR;have hn3:H3.next=H2.next+2:=by rw[hs3.next,GH.aq,GH.aq]
    cases ce with
    |ej y=>
     rw[hPn]at hR;obtain⟨rfl,⟨st,pe,q1⟩,q2,q3,e,he,hlk⟩:=hR;have hnf:¬formed p:=λhf=>by
      have:=hf.2 i h az1 e he;rw[hlk]at this;cases this
     simp only[Rt];simp[hnf];have hnot:∀m,m<H.next+5->m∉ms:=λm hm q=>by have:=(QE m q).1;omega
     have hdb:(uY (H3.del x.d) ms).obj H.next=some (.box [.gp (H.next+2) 0]):=by
      rw[iN _ _ _ (hnot _ (by omega)),GH.nO,if_neg (by rw[F2];omega),q3 _ (by omega),QG _ (by omega)];exact hb0
     refine λPx=>⟨by rw[F2];exact q2,lU ms (H3.del x.d) qQ (λn hn=>?_) ⟨?_,kV _ _ _ hdb rfl _ ?_⟩⟩
     ·have:=QE n hn;rw[GH.nO,if_neg (by rw[F2];omega),q3 _ (by omega),QG _ (by omega)];exact this.2.2
     ·simp[cD,LV.nb,jl,GH.Tm];omega
     ·simp[GH.ay];refine hdn _ (by rw[GH.aM,jl];show H.next<=H3.next;omega) λm hm=>?_
      rw[GH.ay,if_neg (by omega),iN _ _ _ (hnot _ (by omega))]
      show eL H3.obj x.d none m=H.obj m
      rw[aX _ _ (by rw[F2];omega),q3 _ (by omega),QG _ (by omega),ho' _ (by omega),h5l _ hm]
    |ret v=>
     rcases hR with hR|hR
     ·rw[hJ]at hR;obtain⟨q1,q2,q3,q4⟩:=hR;rw[List.take_length]at q4;refine⟨.ready,none,q1,by simp,?_⟩
      simp[yz,F2];refine NXD.go (i+1,H3.set (H2.next+1) (x.go .exhausted none),H2.next::ms) (by simp;omega) ⟨h,λj hj hji hp=>?_,by simp only[GH.aM];omega,λm hm=>?_,?_,λn hn=>?_⟩ (by simp[ar,aB h hf.2.1])
      ·by_cases e:j=i
       ·subst e;exact q4
       ·exact BD j hj (by simp only at hji;omega) hp
      ·simp only;rw[GH.ay,if_neg (by omega),q3 _ (by omega),QG _ (by omega)]
       exact ho' m hm
      ·simp only;refine List.nodup_cons.2 ⟨λhq=>?_,qQ⟩
       have:=(QE _ hq).2.1;omega
      ·simp only at hn|-;rcases List.mem_cons.1 hn with rfl|hn
       ·exact⟨by omega,by rw[GH.aM];omega,by rw[GH.ay,if_neg (by omega)];exact q2⟩
       ·have:=QE n hn;exact⟨this.1,by rw[GH.aM];omega,by rw[GH.ay,if_neg (by omega),q3 _ (by omega),QG _ (by omega)];exact this.2.2⟩
     ·exact hR.elim
  ·simp[hb0];refine⟨by omega,λhz=>?_⟩
   rw[GH.iX hb0]at hz|-;have hf:formed p:=hform λj hj=>BD j hj (by omega)
   refine lU ms H' qQ (λn hn=>(QE n hn).2.2) ?_
   have hnot:∀m,m<H.next+5->m∉ms:=λm hm q=>by have:=(QE m q).1;omega
   have hdb:(uY H' ms).obj H.next=some (.box [.gp (H.next+2) 0]):=by rw[iN _ _ _ (hnot _ (by omega))];exact hb0
   refine⟨by simp[cD,LV.nb,jl];omega,I6 _ _ _ ?_⟩
   simp[hf,hdb];have hzd:=hz.uY ms;have nr:∀m,m<H.next->(uY H' ms).obj m=H.obj m:=λm hm=>by rw[iN _ _ _ (hnot _ (by omega)),ho' m (by omega),h5l m hm]
   have hsd:Cp (uY H' ms) (H.next+2) (H.next+3) (H.next+4) (H.next+1) p.az (an p) a.1 (60-a.2):=
    ⟨by rw[iN _ _ _ (hnot _ (by omega))];exact hs'.sc,by rw[iN _ _ _ (hnot _ (by omega))];exact hs'.o1,by rw[iN _ _ _ (hnot _ (by omega))];exact hs'.o2,by rw[iN _ _ _ (hnot _ (by omega))];exact hs'.o3⟩
   exact⟨_,hzd.drop (by rw[jl];omega),by rw[jl];omega,⟨hrefs,_,_,_,_,_,hsd⟩,by rw[jl];omega,nr⟩
open Classical in
theorem zY(p:Prog)(lW:∀s∈p.az++an p,cN s):aC prog 64 [lv (ar p)] (aH (if formed p then 0 else 2)):=by
 intro H;have cc:=au (p:=bf [1] [] []);refine aG.bG (au (p:=bf [1] [] [])) func64 rfl call64 (by rw[ntmps64];simp) rfl λhf hw=>?_
 have hl:=rf p lW H;simp[ar]at hl;simp[ntmps64,results64,ar];refine EC.of hl (λv H2 hR=>?_) (λv H2 hR=>?_)
 ·by_cases hq:formed p
  ·rw[if_pos hq]at hR;obtain⟨⟨n,q,_⟩,h1,h2⟩:=hR;cases q;simp[hq];exact λhz=>aL h1 h2 hw.none
  ·rw[if_neg hq]at hR;obtain⟨q,rfl⟩:=hR;cases q;simp[hq];exact λhz=>hz.drop (Nat.le_refl _)
 ·split at hR
  ·obtain⟨⟨n,q,_⟩,_⟩:=hR;cases q
  ·cases hR.1
end Go.Aft
end
