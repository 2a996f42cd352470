import Derived.Test.YthinedikejlgmaaGreatA02
set_option linter.all false
section
namespace Go.Aft
section
variable {P:Program} {ty:TypeId->Option aU} {bO:Nat->Kd} {E:tL} {s:S} {a:Act} {w:World} {o:Oper} {r:vo}
theorem xQ{g:Nat}{cur:Array Value}{t:TypeId}(h:w.heap[g]?=some (.cells cur t (0,0)))(cs:Array Value):w.setRow g cs=eU w g (.cells cs t (0,0)):=by
 have hlt:=eN h;have hg:w.heap[g]=.cells cur t (0,0):=by rw[Array.getElem?_eq_getElem hlt]at h;exact Option.some.inj h
 unfold World.setRow eU
 congr 1
 apply Array.ext
 ·simp
 ·intro i h1 h2;by_cases e:g=i
  ·subst e;simp[Array.getElem_modify,hg]
  ·simp only[Array.getElem_modify,e,if_false];rw[Array.getElem_setIfInBounds (by simpa using h1)];simp[e]
theorem oK{G:Gh}{nx:Nat}{lm:Nat->Option Nat}{cs c:List LV}{vs u:List Value}(h:bH G nx lm cs vs)(k:bH G nx lm c u)(off:Nat):
  bH G nx lm (putAt cs off c) (vs.take off++u++vs.drop (off+u.length)):=by
 unfold putAt;rw[bN k];exact eF (eF (py h off) k) (eS h _)
theorem wL{T:TypeId}{d:aU}(hok:d.ok P T){b off:Nat}{vs:List Value}(hc:nR w b vs){v:Value}(hl:v.cells.size=d.sz)(hfit:off+d.sz<=vs.length)(h1:∀u∈v.cells.toList,u.oneCell'=true):
  ∃t,w.heap[b]?=some (.cells vs.toArray t (0,0))/\(storeVar T ⟨b,off,none⟩ v).run P w=.ok () (eU w b (.cells (vs.take off++v.cells.toList++vs.drop (off+v.cells.toList.length)).toArray t (0,0))):=by
 have hl':v.cells.toList.length=d.sz:=by simpa using hl
 obtain⟨t,hb,_⟩:=hc;refine⟨t,hb,?_⟩;have:=run_storeCells_at P b off t v.cells.toList 0 vs.toArray w hb (by simp;omega) h1
 simp only[Nat.add_zero]at this;rw[xQ hb]at this;simp only[hl']at this|-;simp[storeVar,cL hok w,hl];simpa using this
theorem rK{cs c:List Value}(h:∀v∈cs,v.oneCell'=true)(k:∀v∈c,v.oneCell'=true)(off n:Nat):∀v∈cs.take off++c++cs.drop n,v.oneCell'=true:=by
 intro v hv;rcases List.mem_append.1 hv with hv|hv
 ·rcases List.mem_append.1 hv with hv|hv
  ·exact h v (List.mem_of_mem_take hv)
  ·exact k v hv
 ·exact h v (List.mem_of_mem_drop hv)
theorem uW{T:TypeId}{p x:Operand}{ad:Addr}{w':World}(ho:o.op=.store T p x)(he:a.eval p=.pointer (some ad))(h:(storeVar T ad (a.eval x)).run P w=.ok () w'):(execOp a.eval o).run P w=.ok .skip w':=by
 simp[execOp,ho,Instr.storeAt,Instr.sureAddr,he,h]
theorem Ip{T:TypeId}{d:aU}{p x:Operand}{k off:Nat}{cs:List LV}(ho:o.op=.store T p x)(hok:d.ok P T)(hp:s.aI p)(hq:s.aI x)(ha:s.arg p=.lp k off)(hL:s.L k=some cs)
  (hlen:(s.arg x).cells.length=d.sz) (h1:(s.arg x).cells.all LV.one=true) (hfit:off+d.sz<=cs.length) (hs:cF E s a w) (aN:∀t,o.dst=some t->t<s.nt) (pre:Prop):
  bT P E s o a w ⟨pre,.any,.wN k (putAt cs off (s.arg x).cells)⟩:=by
 obtain⟨g2,G,lm,g1,hM,hx,aK,_⟩:=hs;have hpv:=aW aK p hp;rw[ha]at hpv;unfold LR at hpv;obtain⟨b,hb,he⟩:=hpv;obtain⟨b',vs,q1,q2,q3,q4⟩:=hM.loc k cs hL;have:b'=b:=by rw[q1]at hb;exact Option.some.inj hb
 subst this;have kW:=lu (aW aK x hq) h1;have ug:=bN kW;have hx1:=jC kW h1;obtain⟨t,hbt,hrun⟩:=wL hok q3 (v:=a.eval x) (off:=off) (by rw[<-Array.length_toList,ug,hlen]) (by rw[bN q4];exact hfit) hx1
 have zu:=hM.wN k b' hb hL (putAt cs off (s.arg x).cells) _ t (rK q3.choose_spec.2 hx1 off _) (oK q4 kW off);refine⟨.skip,undef,_,uW ho he hrun,.inr ⟨rfl,rfl⟩,?_⟩;refine cF.mk' (L':=eL s.L k (some (putAt cs off (s.arg x).cells))) (H':=s.H) g2 g1 zu (Ext.eU hx (Gh.le_refl _ _) (Nat.le_refl _) (λ_=>rfl) (λhx'=>?_) _) aK (by simp[LR]) aN
 have:=hx.own _ hx';rw[q2]at this;rcases this with q|⟨_,q⟩
 ·rw[<-q];simp
 ·cases q
theorem Iq{T:TypeId}{d:aU}{p x:Operand}{n off:Nat}{cs:List LV}(ho:o.op=.store T p x)(hok:d.ok P T)(hp:s.aI p)(hq:s.aI x)(ha:s.arg p=.gp n off)(hL:s.H.obj n=some (.box cs))
  (hlen:(s.arg x).cells.length=d.sz) (h1:(s.arg x).cells.all LV.one=true) (hfit:off+d.sz<=cs.length) (hnb:cD s.H.next (s.arg x).cells) (hs:cF E s a w) (aN:∀t,o.dst=some t->t<s.nt) (pre:Prop):
  bT P E s o a w ⟨pre,.any,.dV n (.box (putAt cs off (s.arg x).cells))⟩:=by
 obtain⟨g2,G,lm,g1,hM,hx,aK,_⟩:=hs;have hpv:=aW aK p hp;rw[ha]at hpv;unfold LR at hpv;obtain⟨_,he⟩:=hpv;obtain⟨hlt,q2,vs,q3,q4⟩:=hM.iC n _ hL;have kW:=lu (aW aK x hq) h1;have ug:=bN kW;have hx1:=jC kW h1;obtain⟨t,hbt,hrun⟩:=wL hok q3 (v:=a.eval x) (off:=off) (by rw[<-Array.length_toList,ug,hlen]) (by rw[bN q4];exact hfit) hx1
 have xm:=qq q3;have zu:=hM.dV n hL (.box (putAt cs off (s.arg x).cells)) _ q2 (by simp) (by simp)
  ⟨q2,_,⟨t,by rw[ew,if_pos ⟨rfl,xm⟩],rK q3.choose_spec.2 hx1 off _⟩,oK q4 (dm _ _ kW hnb) off⟩
 refine⟨.skip,undef,_,uW ho he hrun,.inr ⟨rfl,rfl⟩,?_⟩;exact cF.mk' (L':=s.L) (H':=s.H.set n (.box (putAt cs off (s.arg x).cells))) g2 g1 zu (hx.dV hM n _ _ q2) aK (by simp[LR]) aN
theorem Io{T e:TypeId}{d:aU}{p x:Operand}{n g off sz:Nat}{cs:List LV}{ex:Bool}(ho:o.op=.store T p x)(hok:d.ok P T)(hp:s.aI p)(hq:s.aI x)(ha:s.arg p=.vp n g off)(hL:s.H.obj n=some (.vec e g sz cs ex))
  (hlen:(s.arg x).cells.length=d.sz) (h1:(s.arg x).cells.all LV.one=true) (hfit:off+d.sz<=cs.length) (hnb:cD s.H.next (s.arg x).cells) (hs:cF E s a w) (aN:∀t,o.dst=some t->t<s.nt) (pre:Prop):
  bT P E s o a w ⟨pre,.any,.dV n (.vec e g sz (putAt cs off (s.arg x).cells) ex)⟩:=by
 obtain⟨g2,G,lm,g1,hM,hx,aK,_⟩:=hs;have hpv:=aW aK p hp;rw[ha]at hpv;unfold LR at hpv;obtain⟨_,_,b,o',he,h2⟩:=hpv;obtain⟨hlt,htip,hsz,b',C,vs,rest,q1,q0,qo,q2,q5,q3,q4,q6,q7⟩:=zh hM hL;obtain⟨rfl,sz',C',h3⟩:=h2 htip.symm;rw[q1]at h3;cases h3;have lX:=bN q3;have kW:=lu (aW aK x hq) h1;have ug:=bN kW;have hx1:=jC kW h1;obtain⟨t,hbt,hrun⟩:=wL hok (vs:=vs++rest) ⟨e,q2,q5⟩ (v:=a.eval x) (off:=o') (by rw[<-Array.length_toList,ug,hlen]) (by simp only[List.length_append];omega) hx1
 have hte:t=e:=by rw[q2]at hbt;cases hbt;rfl
 subst hte;have xm:=eN q2;have bA1:(a.eval x).cells.toList.length=d.sz:=by rw[ug,hlen]
 have ae1:(vs++rest).take o'++(a.eval x).cells.toList++(vs++rest).drop (o'+(a.eval x).cells.toList.length)=(vs.take o'++(a.eval x).cells.toList++vs.drop (o'+(a.eval x).cells.toList.length))++rest:=by
  rw[List.take_append_of_le_length (by omega),List.drop_append_of_le_length (by omega)]
  simp only[List.append_assoc]
 rw[ae1]at hrun;have NO:(vs.take o'++(a.eval x).cells.toList++vs.drop (o'+(a.eval x).cells.toList.length)).length=vs.length:=by
  simp only[List.length_append,List.length_take,List.length_drop];omega
 have zu:=hM.sW n b hL (.vec t g sz (putAt cs o' (s.arg x).cells) ex) _ qo (by simp) (by simp)
  ⟨htip,hsz,b,C,_,rest,q1,q0,qo,by rw[ew,if_pos ⟨rfl,xm⟩],λv hv=>by
   rcases List.mem_append.1 hv with hv|hv
   ·exact rK (λv hv=>q5 v (List.mem_append_left _ hv)) hx1 _ _ v hv
   ·exact q5 v (List.mem_append_right _ hv),oK q3 (dm _ _ kW hnb) o',by rw[List.length_append,NO,<-List.length_append];exact q4,q6,by
   have:(putAt cs o' (s.arg x).cells).length=cs.length:=by simp only[putAt,List.length_append,List.length_take,List.length_drop];omega
   rw[this];exact q7⟩
 refine⟨.skip,undef,_,uW ho he hrun,.inr ⟨rfl,rfl⟩,?_⟩;exact cF.mk' (L':=s.L) (H':=s.H.set n (.vec t g sz (putAt cs o' (s.arg x).cells) ex)) g2 g1 zu (hx.sW n b _ _ qo) aK (by simp[LR]) aN
theorem Is{x:Operand}(ho:o.op=.nilCheck x)(hk:Iw (s.arg x)=true)(hp:s.aI x)(hs:cF E s a w)(aN:∀t,o.dst=some t->t<s.nt)(pre:Prop):bT P E s o a w ⟨pre,s.arg x,.no⟩:=
 bT.pure hs aN λG lm _ aK=>by
  have h:=aW aK x hp;refine⟨a.eval x,?_,h⟩;cases hx:s.arg x with
  |lp k off=>rw[hx]at h;unfold LR at h;obtain⟨b,_,e⟩:=h;simp[execOp,ho,e]
  |gp k off=>rw[hx]at h;unfold LR at h;obtain⟨_,e⟩:=h;simp[execOp,ho,e]
  |ep xs es i off=>rw[hx]at h;unfold LR at h;obtain⟨b,o',e,_⟩:=h;simp[execOp,ho,e]
  |ip cs off=>rw[hx]at h;unfold LR at h;obtain⟨b,e,_⟩:=h;simp[execOp,ho,e]
  |vp n g off=>rw[hx]at h;unfold LR at h;obtain⟨_,_,b,o',e,_⟩:=h;simp[execOp,ho,e]
  |fn f fs cs=>
   rw[hx]at h hk;unfold LR at h;obtain⟨_,_,e,_⟩:=h;cases f<;>simp[Iw]at hk;simp[execOp,ho,e]
  |_=>rw[hx]at hk;simp[Iw]at hk
theorem HG{G:Gh}{nx:Nat}{lm:Nat->Option Nat}{x y:LV}{v:Value}(h:LR G nx lm x v){n:Nat}(hy:x.shift n=some y):∃ad,v=.pointer (some ad)/\LR G nx lm y (.pointer (some (ad.add n))):=by
 cases x<;>simp[LV.shift]at hy<;>subst hy<;>unfold LR at h|-
 ·obtain⟨b,h1,rfl⟩:=h;exact⟨_,rfl,b,h1,by rw[ef]⟩
 ·obtain⟨h1,rfl⟩:=h;exact⟨_,rfl,h1,by rw[ef]⟩
 ·obtain⟨b,o',rfl,h1,h2,h3⟩:=h;exact⟨_,rfl,b,o',by rw[ef,Nat.add_assoc],h1,h2,h3⟩
 ·obtain⟨h1,h2,b,o',rfl,h3⟩:=h;exact⟨_,rfl,h1,h2,b,o'+n,by rw[ef],λe=>by obtain⟨rfl,q⟩:=h3 e;exact⟨rfl,q⟩⟩
 ·obtain⟨b,rfl,h1⟩:=h;exact⟨_,rfl,b,by rw[ef],h1⟩
theorem FG{T t:TypeId}{fs:List (Nat×TypeId)}{d fd:aU}{x:Operand}{f off:Nat}{v:LV}(ho:o.op=.fieldAddr T x f)(hok:d.ok P T)(hk:d.k=.agg fs)(hf:fs[f]?=some (off,t))(F8:fd.ok P t)(hz:fd.sz≠0)
  (hv:(s.arg x).shift off=some v) (hp:s.aI x) (hs:cF E s a w) (aN:∀t,o.dst=some t->t<s.nt) (pre:Prop):bT P E s o a w ⟨pre,v,.no⟩:=
 bT.pure hs aN λG lm _ aK=>by
  obtain⟨ad,e,h⟩:=HG (aW aK x hp) hv;obtain⟨desc,h1,h2⟩:=hok.u;rw[hk]at h2;cases desc<;>simp[TK.ok]at h2;rename_i flds;subst h2;obtain⟨fld,h3,h4⟩:∃fld,flds[f]?=some fld/\(fld.offset,fld.type)=(off,t):=by
   simp only[List.getElem?_map,Array.getElem?_toList]at hf;cases hq:flds[f]? with
   |none=>rw[hq]at hf;cases hf
   |some fld=>rw[hq]at hf;exact⟨fld,rfl,Option.some.inj hf⟩
  cases h4;exact⟨_,by simp[execOp,ho,Instr.fieldAt,run_underlying h1,h3,e,Instr.sureAddr,fieldPlace,cL F8 w,hz],h⟩
theorem M0{op:BinOp}{k:IntKind}{x y:Int}{c:Prop×Value}(h:Gt op k x y=some c)(hc:c.1)(T:TypeId)(w:World):(binOp op T (.int k x) (.int k y)).run P w=.ok c.2 w/\c.2.oneCell'=true:=by
 cases op<;>simp only[Gt,Option.some.injEq,reduceCtorEq]at h<;>subst h
 all_goals refine⟨?_,rfl⟩
 all_goals first
  |(simp[binOp,Op.intArith];done)
  |(simp[binOp,Op.intCmp];done)
  |(simp only at hc;simp[binOp,Op.intDiv,hc];done)
  |(simp only at hc;simp[binOp,Op.shift,VG,show¬y<0 by omega];done)
  |(simp[binOp,Op.intBits,aI3];done)
theorem zU(x y:ByteArray):(x.toList==y.toList)=decide (x=y):=by
 rw[ByteArray.toList_eq,ByteArray.toList_eq,Bool.eq_iff_iff,beq_iff_eq,decide_eq_true_iff];constructor
 ·intro h;exact ByteArray.ext (Array.toList_inj.1 h)
 ·intro h;rw[h]
theorem MZ{op:BinOp}{x y:ByteArray}{c:Prop×Value}(h:Gr op x y=some c)(hc:c.1)(T:TypeId)(w:World):(binOp op T (.string x) (.string y)).run P w=.ok c.2 w/\c.2.oneCell'=true:=by
 cases op<;>simp only[Gr,Option.some.injEq,reduceCtorEq]at h<;>subst h
 ·simp only at hc;have:¬(IntKind.i64.max<(x.size:Int)+y.size):=by show¬((9223372036854775807:Int)<_);omega
  exact⟨by simp[binOp,Op.stringOp,this];omega,rfl⟩
 ·exact⟨by simp[binOp,Op.stringOp,zU],rfl⟩
 ·exact⟨by simp[binOp,Op.stringOp,zU],rfl⟩
theorem P6(op:BinOp)(T:TypeId)(x y:Operand){u v:Value}(hu:u.oneCell'=true)(hn:u≠ .nilIface)(w:World):(eqGuard op T x y u v).run P w=.ok () w:=by
 unfold eqGuard;cases op<;>simp
 all_goals cases u<;>simp_all[Value.oneCell']
theorem TD{op:BinOp}{x y:Bool}{r:Value}(h:(match op with|.eql=>some (.bool (x==y))|.neq=>some (.bool (!(x==y)))|_=>none:Option Value)=some r){T:TypeId}{d:aU}(hok:d.ok P T)(hd:d.k=.bool)(w:World):
  (binOp op T (.bool x) (.bool y)).run P w=.ok r w/\r.oneCell'=true:=by
 obtain⟨desc,h1,h2⟩:=hok.u;rw[hd]at h2;cases desc<;>simp[TK.ok]at h2;cases op<;>simp only[Option.some.injEq,reduceCtorEq]at h<;>subst h
 ·exact⟨run_eql_bool w T x y h1,rfl⟩
 ·exact⟨run_neq_bool w T x y h1,rfl⟩
def zf(P:Program)(bR:TypeId->Option (List Sc)):Prop:=∀T ks,bR T=some ks->∀(xs ys:List Value) (w:World),cp ks xs=true->cp ks ys=true->
 (Op.equalIn 10000 T (.agg xs.toArray) (.agg ys.toArray)).run P w=.ok (allEq xs ys) w/\∀x y,(eqGuard .eql T x y (.agg xs.toArray) (.agg ys.toArray)).run P w=.ok () w/\(eqGuard .neq T x y (.agg xs.toArray) (.agg ys.toArray)).run P w=.ok () w
def wI(P:Program)(bR:TypeId->Option (List Sc)):Prop:=∀T ks,bR T=some ks->∀(xs:List Value) (w:World) (b:Bool),cp ks xs=true->(Instr.checkKey b 10000 T (.agg xs.toArray)).run P w=.ok () w
theorem mY{G:Gh}{nx:Nat}{lm:Nat->Option Nat}:∀{cs:List LV} {vs us:List Value},ig cs=some vs->bH G nx lm cs us->us=vs
 |[],vs,us,h,hR=>by simp[ig]at h;unfold bH at hR;rw[hR,h]
 |c::cs,vs,us,h,hR=>by
  unfold ig at h
  split at h
  ·rename_i e;cases e
  ·rename_i v cs' e;cases e;unfold bH at hR;obtain⟨u,r,rfl,h1,h2⟩:=hR;cases hc:ig cs with
   |none=>rw[hc]at h;cases h
   |some vs'=>
    rw[hc]at h;simp at h;subst h;unfold LR DR at h1;rw[h1.1,mY hc h2]
  ·cases h
theorem Z6{bR:TypeId->Option (List Sc)}{op:BinOp}{T yT:TypeId}{x y:Operand}{c:Prop×Value}(cW:nA P ty)(heq:zf P bR)(ho:o.op=.binOp op T x y yT)(hv:W5 (((ty T).map (·.k.isBool)).getD false) (bR T) op (s.arg x) (s.arg y)=some c)(hc:c.1)(hp:s.aI x)(hq:s.aI y)
  (hs:cF E s a w) (aN:∀t,o.dst=some t->t<s.nt) (pre:Prop):bT P E s o a w ⟨pre,kz c.2,.no⟩:=
 bT.pure hs aN λG lm _ aK=>by
  have h1:=aW aK x hp;have h2:=aW aK y hq;have key:∀u v:Value,u.oneCell'=true->u≠ .nilIface->a.eval x=u->a.eval y=v->((binOp op T u v).run P w=.ok c.2 w/\c.2.oneCell'=true)->∃v',(execOp a.eval o).run P w=.ok (.value v') w/\LR G s.H.next lm (kz c.2) v':=by
   intro u v g1 g2 e1 e2 ⟨g3,g4⟩;have hg:=P6 (P:=P) op T x y (v:=v) g1 g2 w;exact⟨c.2,by simp[execOp,ho,e1,e2,hg,g3],yw g4⟩
  unfold W5 at hv
  split at hv
  ·rename_i cs ds e1 e2;rw[e1]at h1;rw[e2]at h2;unfold LR at h1 h2;obtain⟨vs,e3,h1⟩:=h1;obtain⟨us,e4,h2⟩:=h2;cases hk:bR T with
   |none=>rw[hk]at hv;cases op<;>cases hv
   |some ks=>
    rw[hk]at hv;have aux:∀r,JZ ks cs ds=some r->(Op.equalIn 10000 T (.agg vs.toArray) (.agg us.toArray)).run P w=.ok r w/\∀x y,(eqGuard .eql T x y (.agg vs.toArray) (.agg us.toArray)).run P w=.ok () w/\(eqGuard .neq T x y (.agg vs.toArray) (.agg us.toArray)).run P w=.ok () w:=by
     intro r hr;unfold JZ at hr
     split at hr
     ·rename_i vs' us' q1 q2
      split at hr
      ·rename_i hh;simp only[Bool.and_eq_true]at hh;rw[mY q1 h1,mY q2 h2];cases hr;exact heq T ks hk vs' us' w hh.1 hh.2
      ·cases hr
     ·cases hr
    cases op<;>simp only[Option.bind_some,Option.map_eq_some_iff,reduceCtorEq]at hv
    ·obtain⟨r,hr,rfl⟩:=hv;obtain⟨q1,q2⟩:=aux r hr;refine⟨.bool r,?_,yw rfl⟩;simp only[execOp,ho];rw[e3,e4];simp[(q2 x y).1,run_eql_struct,q1]
    ·obtain⟨r,hr,rfl⟩:=hv;obtain⟨q1,q2⟩:=aux r hr;refine⟨.bool (!r),?_,yw rfl⟩;simp only[execOp,ho];rw[e3,e4];simp[(q2 x y).2,run_neq_struct,q1]
  ·rename_i j m k n e1 e2;rw[e1]at h1;rw[e2]at h2;unfold LR DR at h1 h2
   split at hv
   ·rename_i ejk;subst ejk;exact key _ _ rfl (by simp) h1.1 h2.1 (M0 hv hc T w)
   ·split at hv
    ·cases hv;simp only at hc;exact key _ _ rfl (by simp) h1.1 h2.1 ⟨by simp[binOp,Op.shift,VG,show¬n<0 by omega],rfl⟩
    ·cases hv
  ·rename_i m n e1 e2;rw[e1]at h1;rw[e2]at h2;unfold LR DR at h1 h2;exact key _ _ rfl (by simp) h1.1 h2.1 (MZ hv hc T w)
  ·rename_i m n e1 e2
   split at hv
   ·rename_i htb;cases hT:ty T with
    |none=>rw[hT]at htb;cases htb
    |some d=>
     rw[hT]at htb;have hd:d.k=.bool:=by simp at htb;cases hk:d.k<;>rw[hk]at htb<;>simp[TK.isBool]at htb|-
     rw[e1]at h1;rw[e2]at h2;unfold LR DR at h1 h2;refine key _ _ rfl (by simp) h1.1 h2.1 (TD ?_ (cW T d hT) hd w)
     cases op<;>simp at hv|- <;>rw[<-hv]
   ·cases hv
  ·cases hv
theorem av3{op:UnOp}{T:TypeId}{x:Operand}{c:Value}(ho:o.op=.unOp op T x)(hv:unV op (s.arg x)=some c)(hp:s.aI x)
  (hs:cF E s a w) (aN:∀t,o.dst=some t->t<s.nt) (pre:Prop):bT P E s o a w ⟨pre,kz c,.no⟩:=
 bT.pure hs aN λG lm _ aK=>by
  have h1:=aW aK x hp;unfold unV at hv
  split at hv
  ·rename_i b e;rw[e]at h1;unfold LR DR at h1;cases hv;exact⟨_,by simp[execOp,ho,h1.1,Op.unary],yw rfl⟩
  ·rename_i k n e;rw[e]at h1;unfold LR DR at h1;cases hv;exact⟨_,by simp[execOp,ho,h1.1,Op.unary,Op.intArith],yw rfl⟩
  ·cases hv
theorem Rw{d:aU}{T:TypeId}(hok:d.ok P T){off:Nat}{vs:List Value}{cs:List LV}{v:LV}{G:Gh}{nx:Nat}{lm:Nat->Option Nat}
  (hR:bH G nx lm cs vs) (h:dz d (cs.drop off)=some v):∃v',(part T vs.toArray off).run P w=.ok v' w/\LR G nx lm v v':=by
 have YU:=eS hR off;unfold dz at h;by_cases ha:d.k.isAgg=true
 ·rw[if_pos ha]at h
  split at h
  ·rename_i hl;cases h;refine⟨.agg ((vs.drop off).take d.sz).toArray,?_,?_⟩
   ·simp[part,tg hok w,ha,cL hok w]
   ·unfold LR;exact⟨_,rfl,py YU d.sz⟩
  ·cases h
 ·rw[if_neg ha]at h;have h0:(cs.drop off)[0]?=some v:=by rw[<-List.head?_eq_getElem?];exact h
  obtain⟨u,h1,h2⟩:=kM YU 0 v h0;have hf:d.k.isAgg=false:=by simpa using ha
  have zw:vs[off]?=some u:=by simpa using h1
  refine⟨u,?_,h2⟩;simp[part,tg hok w,hf,zw]
theorem JP{fs:List (Nat×TypeId)}{flds:Array Field}(h:flds.toList.map (λf=>(f.offset,f.type))=fs){f off:Nat}{t:TypeId}(hf:fs[f]?=some (off,t)):∃fld,flds[f]?=some fld/\fld.offset=off/\fld.type=t:=by
 subst h;simp only[List.getElem?_map,Array.getElem?_toList]at hf;cases hq:flds[f]? with
 |none=>rw[hq]at hf;cases hf
 |some fld=>rw[hq]at hf;simp at hf;exact⟨fld,rfl,hf.1,hf.2⟩
theorem RI{T t:TypeId}{fs:List (Nat×TypeId)}{d fd:aU}{x:Operand}{f off:Nat}{cs:List LV}{v:LV}(ho:o.op=.field T x f)(hok:d.ok P T)(hk:d.k=.agg fs)(hf:fs[f]?=some (off,t))(F8:fd.ok P t)
  (ha:s.arg x=.agg cs) (hv:dz fd (cs.drop off)=some v) (hp:s.aI x) (hs:cF E s a w) (aN:∀t,o.dst=some t->t<s.nt) (pre:Prop):bT P E s o a w ⟨pre,v,.no⟩:=
 bT.pure hs aN λG lm _ aK=>by
  have h:=aW aK x hp;rw[ha]at h;unfold LR at h;obtain⟨vs,e,hR⟩:=h;obtain⟨desc,h1,h2⟩:=hok.u;rw[hk]at h2;cases desc<;>simp only[TK.ok]at h2;rename_i flds;obtain⟨fld,h3,h4,h5⟩:=JP h2 hf;subst h4;subst h5;obtain⟨v',q1,q2⟩:=Rw (w:=w) F8 hR hv;exact⟨v',by simp[execOp,ho,Instr.field,run_underlying h1,h3,e,asAgg,q1],q2⟩
theorem Fp{G:Gh}{nx:Nat}{lm:Nat->Option Nat}{x:LV}{v:Value}{xs:List (List DV)}(h:LR G nx lm x v)(hx:rowsOf x=some xs):(∃cap,v=.slice none 0 cap/\xs=[])\/ DR G.M (.sl xs) v:=by
 unfold rowsOf at hx
 split at hx
 ·cases hx;exact .inr (by simpa[LR]using h)
 ·cases hx;exact .inr (by unfold LR at h;exact h.2.1)
 ·cases hx;unfold LR DR at h;exact .inl ⟨0,h.1,rfl⟩
 ·cases hx
theorem LQ{T e:TypeId}{d ed:aU}{x i:Operand}{k:IntKind}{n:Int}{xs:List (List DV)}(ho:o.op=.indexAddr T x i)(hok:d.ok P T)(hk:d.k=.sl e)(gN:ed.ok P e)(hi:s.arg i=.d (.k (.int k n)))(hx:rowsOf (s.arg x)=some xs)
  (h0:0<=n) (h1:n<xs.length) (h2:(xs.getD n.toNat []).length=ed.sz) (hp:s.aI x) (hq:s.aI i) (hs:cF E s a w) (aN:∀t,o.dst=some t->t<s.nt) (pre:Prop):bT P E s o a w ⟨pre,.ep xs ed.sz n.toNat 0,.no⟩:=
 bT.pure hs aN λG lm _ aK=>by
  have hi':=aW aK i hq;rw[hi]at hi';unfold LR DR at hi';obtain⟨desc,g1,g2⟩:=hok.u;rw[hk]at g2;cases desc<;>simp only[TK.ok]at g2;subst g2;rcases Fp (aW aK x hp) hx with⟨cap,_,rfl⟩|hD
  ·simp at h1;omega
  ·unfold DR at hD;obtain⟨ad,cap,sz,e1,e2,e3,e4,e5⟩:=hD;rcases e5 with rfl|⟨b,off,rfl,hR⟩
   ·simp at h1;omega
   ·have hlt:n.toNat<xs.length:=by omega
    have hsz:sz=ed.sz:=by
     have GR:xs[n.toNat]?=some (xs.getD n.toNat []):=by simp[List.getD,List.getElem?_eq_getElem hlt]
     rw[<-h2];exact(e4 _ (List.mem_of_getElem? GR)).symm
    subst hsz;refine⟨.pointer (some ⟨b,off+n.toNat*ed.sz,none⟩),?_,?_⟩
    ·simp[execOp,ho,Instr.indexAt,hi'.1,asIntOf,run_underlying g1,e1,h0,h1,cL gN w,ef]
    ·unfold LR;exact⟨b,off,rfl,hlt,e4,hR⟩
theorem LO{T e:TypeId}{d ed:aU}{x i:Operand}{k:IntKind}{n:Int}{m g sz j len:Nat}(ho:o.op=.indexAddr T x i)(hok:d.ok P T)(hk:d.k=.sl e)(gN:ed.ok P e)(hi:s.arg i=.d (.k (.int k n)))(hx:s.arg x=.vs m g sz j len)(hsz:ed.sz=sz)
  (h0:0<=n) (h1:n<len) (hp:s.aI x) (hq:s.aI i) (hs:cF E s a w) (aN:∀t,o.dst=some t->t<s.nt) (pre:Prop):bT P E s o a w ⟨pre,.vp m g ((j+n.toNat)*sz),.no⟩:=
 bT.pure hs aN λG lm _ aK=>by
  have hi':=aW aK i hq;rw[hi]at hi';unfold LR DR at hi';obtain⟨desc,g1,g2⟩:=hok.u;rw[hk]at g2;cases desc<;>simp only[TK.ok]at g2;subst g2;subst hsz;have hx':=aW aK x hp;rw[hx]at hx';unfold LR at hx';obtain⟨q1,q2,b,o',cap,q3,q4,q5,q6⟩:=hx';refine⟨.pointer (some ⟨b,o'+n.toNat*ed.sz,none⟩),?_,?_⟩
  ·simp[execOp,ho,Instr.indexAt,hi'.1,asIntOf,run_underlying g1,q3,h0,h1,cL gN w,ef]
  ·unfold LR;refine⟨q1,q2,b,_,rfl,λe=>?_⟩
   obtain⟨C,r1,r2,r3⟩:=q6 e;refine⟨?_,ed.sz,C,r1⟩;rw[r3 (by omega),Nat.add_mul]
theorem Iu{T e:TypeId}{d ed:aU}{x i:Operand}{k:IntKind}{n:Int}{len:Nat}{v:LV}(ho:o.op=.indexAddr T x i)(hok:d.ok P T)(hk:d.k=.arr len e)(gN:ed.ok P e)(hi:s.arg i=.d (.k (.int k n)))(hx:(s.arg x).shift (n.toNat*ed.sz)=some v)
  (h0:0<=n) (h1:n<len) (hp:s.aI x) (hq:s.aI i) (hs:cF E s a w) (aN:∀t,o.dst=some t->t<s.nt) (pre:Prop):bT P E s o a w ⟨pre,v,.no⟩:=
 bT.pure hs aN λG lm _ aK=>by
  have hi':=aW aK i hq;rw[hi]at hi';unfold LR DR at hi';obtain⟨desc,g1,g2⟩:=hok.u;rw[hk]at g2;cases desc<;>simp only[TK.ok]at g2;obtain⟨rfl,rfl⟩:=g2;obtain⟨ad,e1,e2⟩:=HG (aW aK x hp) hx;exact⟨_,by simp[execOp,ho,Instr.indexAt,hi'.1,asIntOf,run_underlying g1,e1,h0,h1,cL gN w,Instr.sureAddr],e2⟩
theorem LU{x:Operand}{i:Nat}{vs:List LV}{v:LV}(ho:o.op=.extract x i)(ha:s.arg x=.dh vs)(hv:vs[i]?=some v)(hp:s.aI x)(hs:cF E s a w)(aN:∀t,o.dst=some t->t<s.nt)(pre:Prop):bT P E s o a w ⟨pre,v,.no⟩:=
 bT.pure hs aN λG lm _ aK=>by
  have h:=aW aK x hp;rw[ha]at h;unfold LR at h;obtain⟨us,e,hR⟩:=h;obtain⟨u,h1,h2⟩:=kM hR i v hv;exact⟨u,by simp[execOp,ho,Instr.extract,e,h1],h2⟩
theorem Gg{G:Gh}{lm:Nat->Option Nat}{nx:Nat}(h:∀t,LR G nx lm (s.env t) (a.tmps.getD t undef)):∀l:List Operand,bH G nx lm (l.map s.get) (l.map a.eval)
 |[]=>by simp[bH]
 |o::l=>by simp only[List.map_cons];unfold bH;exact⟨_,_,rfl,MI h o,Gg h l⟩
theorem rM{fn:Fn}{first cap:Array Operand}(ho:o.op=.makeFunc fn first cap)(hs:cF E s a w)(aN:∀t,o.dst=some t->t<s.nt)(pre:Prop):
  bT P E s o a w ⟨pre,.fn fn (first.toList.map s.get) (cap.toList.map s.get),.no⟩:=
 bT.pure hs aN λG lm _ aK=>⟨.func fn (first.map a.eval) (cap.map a.eval),by simp[execOp,ho,Instr.makeFunc],by
  unfold LR;exact⟨first.toList.map a.eval,cap.toList.map a.eval,by congr 1<;>(apply Array.ext';simp),Gg aK _,Gg aK _⟩⟩
theorem LI{T:TypeId}(ho:o.op=.makeMap T none)(hs:cF E s a w)(aN:∀t,o.dst=some t->t<s.nt)(pre:Prop):bT P E s o a w ⟨pre,.gm s.H.next,.iD (.map [])⟩:=by
 obtain⟨h2,G,lm,h1,h3,h4,h5,_⟩:=hs;have hle:=uH (G:=G) s.H.next w.heap.size;have hM:=h3.sI (.map []) (.map #[] 0) (by simp) (by
  refine⟨by simp[tc],[],0,by simp only[tc,eG];rw[dg,if_pos rfl],?_⟩
  exact⟨rfl,by simp[bH],by simp,by simp⟩)
 refine⟨.value (.map (some w.heap.size)),.map (some w.heap.size),w.alloc (.map #[] 0),?_,.inl rfl,?_⟩
 ·simp[execOp,ho,Instr.makeMap]
 ·refine cF.mk' (L':=s.L) (H':=s.H.add (.map [])) h2 (ct (Nat.le_succ _) hle _ _ h1) hM (h4.sI h3 _ _) (ic (Nat.le_succ _) hle (λ_ _ e=>e) h5) ?_ aN
  unfold LR;exact⟨Nat.lt_succ_self _,by simp[tc]⟩
end
end Go.Aft
end
section
namespace Go.Aft
section
variable {P:Program} {ty:TypeId->Option aU} {bO:Nat->Kd} {E:tL} {s:S} {a:Act} {w:World} {o:Oper} {r:vo}
theorem Eu(off:Nat):∀(c:List Value) (k:Nat) (cs:Array Value) (i:Nat),
  ((c.zipIdx k).foldl (λ(cs:Array Value) (p:Value×Nat)=>cs.setIfInBounds (off+p.2) p.1) cs)[i]?=if off+k<=i/\i<off+k+c.length/\i<cs.size then c[i-(off+k)]? else cs[i]?
 |[],k,cs,i=>by simp;intro h1 h2;omega
 |v::c,k,cs,i=>by
  simp only[List.zipIdx_cons,List.foldl_cons];rw[Eu off c (k+1)];simp only[Array.size_setIfInBounds,Array.getElem?_setIfInBounds,List.length_cons];by_cases e:off+k=i
  ·subst e;rw[if_neg (by omega),if_pos rfl]
   by_cases e2:off+k<cs.size
   ·rw[if_pos e2,if_pos ⟨Nat.le_refl _,by omega,e2⟩];simp
   ·rw[if_neg e2,if_neg (by omega)];simp[Array.getElem?_eq_none (Nat.le_of_not_lt e2)]
  ·rw[if_neg e];by_cases e3:off+(k+1)<=i/\i<off+(k+1)+c.length/\i<cs.size
   ·rw[if_pos e3,if_pos (by omega)]
    rw[show i-(off+k)=i-(off+(k+1))+1 from by omega];simp
   ·rw[if_neg e3,if_neg (by omega)]
theorem Et(off:Nat)(c:List Value)(cs:Array Value)(h:off+c.length<=cs.size):
  (c.zipIdx).foldl (λ(cs:Array Value) (p:Value×Nat)=>cs.setIfInBounds (off+p.2) p.1) cs=(cs.toList.take off++c++cs.toList.drop (off+c.length)).toArray:=by
 apply Array.ext_getElem?;intro i;rw[Eu off c 0 cs i];simp only[Nat.add_zero,List.getElem?_toArray,List.append_assoc,List.getElem?_append,List.length_take,Array.length_toList,List.getElem?_take,List.getElem?_drop,Array.getElem?_toList];by_cases e1:i<off
 ·rw[if_neg (by omega),if_pos (by omega),if_pos e1]
 ·by_cases e2:i<off+c.length
  ·rw[if_pos ⟨by omega,e2,by omega⟩,if_neg (by omega),if_pos (by omega)]
   rw[show min off cs.size=off from by omega]
  ·rw[if_neg (by omega),if_neg (by omega),if_neg (by omega)]
   congr 1
   omega
theorem N3{G:Gh}{nx:Nat}{lm:Nat->Option Nat}{place pc:Nat->Option (Nat×Nat)}(hpc:∀i r,place i=some r->pc i=some r):∀(ps:List (Nat×LV)) (qs:List (Nat×Value)) (cs cs':List LV) (vs:List Value),
  qs.map (·.1)=ps.map (·.1)->bH G nx lm (ps.map (·.2)) (qs.map (·.2))->bH G nx lm cs vs->(∀v∈vs,v.oneCell'=true)->BR place cs ps=some cs'->
  ∃vs',Instr.fill pc vs.toArray qs=some vs'.toArray/\bH G nx lm cs' vs'/\∀v∈vs',v.oneCell'=true
 |[],qs,cs,cs',vs,h1,_,h3,h4,h5=>by
  cases qs with
  |nil=>simp[BR]at h5;subst h5;exact⟨vs,by simp[Instr.fill],h3,h4⟩
  |cons q qs=>simp at h1
 |(i,x)::ps,qs,cs,cs',vs,h1,h2,h3,h4,h5=>by
  cases qs with
  |nil=>simp at h1
  |cons q qs=>
   obtain⟨j,v⟩:=q;simp at h1;obtain⟨rfl,h1⟩:=h1;simp only[List.map_cons]at h2;unfold bH at h2;obtain⟨v',r,e,h2a,h2b⟩:=h2;simp at e;obtain⟨rfl,rfl⟩:=e;simp only[BR]at h5;cases hp:place j with
   |none=>rw[hp]at h5;cases h5
   |some pr=>
    obtain⟨off,size⟩:=pr;rw[hp]at h5;simp only at h5
    split at h5
    ·cases h5
    ·rename_i hc;have hc1:x.cells.length=size/\off+x.cells.length<=cs.length/\x.cells.all LV.one=true:=by
      refine⟨?_,?_,?_⟩
      ·exact Classical.byContradiction λq=>hc (.inl q)
      ·exact Classical.byContradiction λq=>hc (.inr (.inl (by omega)))
      ·exact Classical.byContradiction λq=>hc (.inr (.inr (by simpa using q)))
     have vk:=lu h2a hc1.2.2;have hl:=bN vk;have hl3:=bN h3;have hf:=Et off v.cells.toList vs.toArray (by simp only[List.size_toArray];omega)
     obtain⟨vs',g1,g2,g3⟩:=N3 hpc ps qs _ cs' _ h1 h2b (oK h3 vk off) (rK h4 (jC vk hc1.2.2) off _) h5;refine⟨vs',?_,g2,g3⟩;simp only[Instr.fill,hpc _ _ hp];rw[if_neg (by
      simp only[Array.length_toList]at hl;simp;omega)]
     have:v.cells.zipIdx.foldl (λ(cs:Array Value) (x:Value×Nat)=>cs.setIfInBounds (off+x.2) x.1) vs.toArray=(v.cells.toList.zipIdx).foldl (λ(cs:Array Value) (p:Value×Nat)=>cs.setIfInBounds (off+p.2) p.1) vs.toArray:=by
      rw[<-Array.toList_zipIdx,Array.foldl_toList]
     rw[this,hf];exact g1
theorem IZ{α β:Type}(f:α->Sem β)(g:α->β)(w:World):∀l:List α,(∀x∈l,(f x).run P w=.ok (g x) w)->(l.mapM f).run P w=.ok (l.map g) w
 |[],_=>by simp
 |x::l,h=>by
  have h1:=h x (List.mem_cons_self ..);have h2:=IZ f g w l λy hy=>h y (List.mem_cons_of_mem _ hy)
  simp[List.mapM_cons,h1,h2]
theorem Qr{α β:Type}(f:α->Sem β)(g:α->β)(w:World)(l:Array α)(h:∀x∈l.toList,(f x).run P w=.ok (g x) w):(l.mapM f).run P w=.ok (l.map g) w:=by
 rw[Array.mapM_eq_mapM_toList];have:=IZ (P:=P) f g w l.toList h;simp only[Sem.run_map,this,Result.andThen_ok]
 congr 1
 apply Array.ext';simp
theorem vI{G:Gh}{lm:Nat->Option Nat}{nx:Nat}(h:∀t,LR G nx lm (s.env t) (a.tmps.getD t undef)):∀ps:List (Nat×Operand),j7 s ps->
  bH G nx lm (ps.map λp=>s.arg p.2) (ps.map λp=>a.eval p.2)
 |[],_=>by simp[bH]
 |p::ps,hp=>by simp only[List.map_cons];unfold bH;exact⟨_,_,rfl,aW h p.2 hp.1,vI h ps hp.2⟩
theorem RJ{T:TypeId}{d:aU}{parts:Array (Nat×Operand)}{cs:List LV}(cW:nA P ty)(ho:o.op=.build T parts)(hT:ty T=some d)(lY:d.k.isAgg=true)(hall:∀fs,d.k=.agg fs->∀p∈fs,(ty p.2).isSome=true)(gE:∀n e,d.k=.arr n e->(ty e).isSome=true)
  (hf:BR (places ty d) (d.zero.map kz) (parts.toList.map λp=>(p.1,s.arg p.2))=some cs) (hp:j7 s parts.toList)
  (hs:cF E s a w) (aN:∀t,o.dst=some t->t<s.nt) (pre:Prop):bT P E s o a w ⟨pre,.agg cs,.no⟩:=
 bT.pure hs aN λG lm _ aK=>by
  have hok:=cW T d hT;obtain⟨z,tG,qD⟩:=vq hok w;have Px:z.cells=d.zero.toArray:=by rw[<-qD]
  obtain⟨desc,h1,h2⟩:=hok.u;have key:∀pc:Nat->Option (Nat×Nat),(∀i r,places ty d i=some r->pc i=some r)->∃vs',Instr.fill pc d.zero.toArray (parts.map λp=>(p.1,a.eval p.2)).toList=some vs'.toArray/\bH G s.H.next lm cs vs':=by
   intro pc hpc;obtain⟨vs',g1,g2,_⟩:=N3 (G:=G) (nx:=s.H.next) (lm:=lm) hpc (parts.toList.map λp=>(p.1,s.arg p.2)) (parts.toList.map λp=>(p.1,a.eval p.2)) (d.zero.map kz) cs d.zero (by simp) (by
    simp only[List.map_map];exact vI aK _ hp) (w9 hok.one) hok.one hf
   exact⟨vs',by rw[Array.toList_map];exact g1,g2⟩
  cases desc with
  |struct flds=>
   cases hk:d.k<;>rw[hk]at h2<;>simp only[TK.ok]at h2;rename_i fs;have hsz:∀f∈flds.toList,(Go.sizeOf f.type).run P w=.ok (((ty f.type).map (·.sz)).getD 0) w:=λf hf=>by
    have:=hall fs hk (f.offset,f.type) (by rw[<-h2];exact List.mem_map.2 ⟨f,hf,rfl⟩)
    cases ht:ty f.type with
    |none=>rw[ht]at this;cases this
    |some fd=>exact cL (cW _ fd ht) w
   have hm:=Qr (P:=P) (λf:Field=>do pure (f.offset,<-Go.sizeOf f.type)) (λf=>(f.offset,((ty f.type).map (·.sz)).getD 0)) w flds λf hf=>by simp[hsz f hf]
   obtain⟨vs',g1,g2⟩:=key (λi=>(flds.map λf=>(f.offset,((ty f.type).map (·.sz)).getD 0))[i]?) λi r hr=>by
    simp only[places,hk]at hr;cases hi:fs[i]? with
    |none=>rw[hi]at hr;cases hr
    |some p=>
     obtain⟨off,t⟩:=p;rw[hi]at hr;simp at hr;obtain⟨fld,q1,q2,q3⟩:=JP h2 hi;obtain⟨fd,q4,q5⟩:=hr;simp[q1,q2,q3,q4,<-q5]
   refine⟨.agg vs'.toArray,?_,by unfold LR;exact⟨vs',rfl,g2⟩⟩
   simp only[execOp,ho,Instr.build];simp[tG,run_underlying h1,Px];simp at hm;rw[hm];simp at g1|-;rw[g1];simp
  |array n e=>
   cases hk:d.k<;>rw[hk]at h2<;>simp only[TK.ok]at h2;rename_i n' e';obtain⟨rfl,rfl⟩:=h2;obtain⟨ed,he⟩:=Option.isSome_iff_exists.1 (gE _ _ hk);obtain⟨vs',g1,g2⟩:=key (λi=>some (i*ed.sz,ed.sz)) λi r hr=>by simpa[places,hk,he]using hr
   refine⟨.agg vs'.toArray,?_,by unfold LR;exact⟨vs',rfl,g2⟩⟩
   simp only[execOp,ho,Instr.build];simp[tG,run_underlying h1,Px,cL (cW _ ed he) w];simp at g1;rw[g1];simp
  |_=>cases hk:d.k<;>rw[hk]at h2 lY<;>simp only[TK.ok]at h2<;>simp[TK.isAgg]at lY
theorem BQ(size:Nat)(pc:Nat->Option (Nat×Nat))(hpc:∀i,pc i=some (i*size,size)):∀(qs:List (Nat×Value)) (k:Nat) (cs:Array Value),qs.map (·.1)=(List.range' k qs.length)->(∀q∈qs,q.2.cells.size=size)->cs.size=(k+qs.length)*size->
  Instr.fill pc cs qs=some (cs.toList.take (k*size)++(qs.map λq=>q.2.cells.toList).flatten).toArray
 |[],k,cs,_,_,h=>by
  simp[Instr.fill];simp at h;rw[<-h,<-Array.length_toList,List.take_length]
 |(i,v)::qs,k,cs,h1,h2,h3=>by
  simp[List.range'_succ]at h1;obtain⟨rfl,h1⟩:=h1;have hv:v.cells.size=size:=h2 (i,v) (List.mem_cons_self ..);simp only[List.length_cons]at h3;have hfit:i*size+size<=cs.size:=by
   rw[h3,show i+(qs.length+1)=(i+1)+qs.length from by omega,Nat.add_mul,Nat.succ_mul];omega
  simp only[Instr.fill,hpc];rw[if_neg (by simp;omega)]
  have hf:=Et (i*size) v.cells.toList cs (by simp;omega)
  have he:v.cells.zipIdx.foldl (λ(cs:Array Value) (x:Value×Nat)=>cs.setIfInBounds (i*size+x.2) x.1) cs=(v.cells.toList.zipIdx).foldl (λ(cs:Array Value) (p:Value×Nat)=>cs.setIfInBounds (i*size+p.2) p.1) cs:=by
   rw[<-Array.toList_zipIdx,Array.foldl_toList]
  rw[he,hf];rw[BQ size pc hpc qs (i+1) _ h1 (λq hq=>h2 q (List.mem_cons_of_mem _ hq)) (by
   simp only[List.size_toArray,List.length_append,List.length_take,List.length_drop,Array.length_toList];rw[h3,hv]at*;rw[show i+(qs.length+1)=(i+1)+qs.length from by omega]at*
   omega)]
  congr 2
  simp only[List.map_cons,List.flatten_cons];have hl:(List.take (i*size) cs.toList++v.cells.toList).length=(i+1)*size:=by
   simp only[List.length_append,List.length_take,Array.length_toList,hv,Nat.succ_mul];omega
  rw[List.take_append_of_le_length (by rw[hl];exact Nat.le_refl _),<-hl,List.take_length,List.append_assoc]
theorem ZS{G:Gh}{nx:Nat}{lm:Nat->Option Nat}{x:LV}{v:Value}{y:DV}(h:LR G nx lm x v)(hy:Ys x=some y):DR G.M y v/\x.one=true:=by
 unfold Ys at hy
 split at hy
 ·cases hy;exact⟨by simpa[LR]using h,rfl⟩
 ·cases hy;unfold LR at h;exact⟨h.2.1,rfl⟩
 ·cases hy
theorem Fb{G:Gh}{nx:Nat}{lm:Nat->Option Nat}{M:Mem}(hM:G.M.le M){b:Nat}:∀{cs:List LV} {ds:List DV} {vs:List Value} {o:Nat},tF cs=some ds->bH G nx lm cs vs->(∀(i:Nat) (v:Value),vs[i]?=some v->M b (o+i)=some v)->RC M b o ds/\ds.length=cs.length/\cs.all LV.one=true
 |[],ds,vs,o,h,_,_=>by simp[tF]at h;subst h;simp[RC]
 |c::cs,ds,vs,o,h,hR,hm=>by
  simp only[tF]at h;cases hc:Ys c with
  |none=>rw[hc]at h;cases h
  |some y=>
   rw[hc]at h;cases hcs:tF cs with
   |none=>rw[hcs]at h;cases h
   |some ys=>
    rw[hcs]at h;simp at h;subst h;unfold bH at hR;obtain⟨v,r,rfl,h1,h2⟩:=hR;have q:=ZS h1 hc;have ih:=Fb (o:=o+1) hM hcs h2 λi v hv=>by have:=hm (i+1) v (by simpa using hv);rw[show o+1+i=o+(i+1)from by omega];exact this
    unfold RC;exact⟨⟨⟨v,by simpa using hm 0 v rfl,qx hM _ _ q.1⟩,ih.1⟩,by simp[ih.2.1],by simp[q.2];simpa using ih.2.2⟩
theorem vE{G:Gh}{nx:Nat}{lm:Nat->Option Nat}{M:Mem}(hM:G.M.le M){b size:Nat}:∀{ps:List (Nat×LV)} {qs:List (Nat×Value)} {rows:List (List DV)} {o:Nat},tW ps=some rows->bH G nx lm (ps.map (·.2)) (qs.map (·.2))->
  (∀r∈rows,r.length=size)->(∀(i:Nat) (v:Value),((qs.map λq=>q.2.cells.toList).flatten)[i]?=some v->M b (o+i)=some v)->RR M b o rows/\(∀q∈qs,q.2.cells.size=size)/\(∀v∈(qs.map λq=>q.2.cells.toList).flatten,v.oneCell'=true)/\rows.length=ps.length
 |[],qs,rows,o,h,hR,_,_=>by
  simp[tW]at h;subst h;simp only[List.map_nil]at hR;unfold bH at hR;simp at hR;subst hR;simp[RR]
 |p::ps,qs,rows,o,h,hR,hs,hm=>by
  simp only[tW]at h;cases hp:tF p.2.cells with
  |none=>rw[hp]at h;cases h
  |some r=>
   rw[hp]at h;cases hps:tW ps with
   |none=>rw[hps]at h;cases h
   |some rs=>
    rw[hps]at h;simp at h;subst h;cases qs with
    |nil=>simp only[List.map_cons,List.map_nil]at hR;unfold bH at hR;obtain⟨_,_,e,_⟩:=hR;cases e
    |cons q qs=>
     simp only[List.map_cons]at hR;unfold bH at hR;obtain⟨v,r',e,h1,h2⟩:=hR;simp at e;obtain⟨rfl,rfl⟩:=e;have hone:p.2.cells.all LV.one=true:=by
      have:∀{cs:List LV} {ds:List DV},tF cs=some ds->cs.all LV.one=true:=by
       intro cs
       induction cs with
       |nil=>simp
       |cons c cs ih=>
        intro ds hd;simp only[tF]at hd;cases hc:Ys c with
        |none=>rw[hc]at hd;cases hd
        |some y=>
         rw[hc]at hd;cases hcs:tF cs with
         |none=>rw[hcs]at hd;cases hd
         |some ys=>
          have h1:c.one=true:=by unfold Ys at hc;split at hc<;>first|rfl|cases hc
          simp[h1];simpa using ih hcs
      exact this hp
     have hc:=lu h1 hone;have hlen:=bN hc;have q1:=Fb (M:=M) (b:=b) (o:=o) hM hp hc λi u hu=>hm i u (by
      simp only[List.map_cons,List.flatten_cons];rw[List.getElem?_append_left (List.getElem?_eq_some_iff.1 hu).1];exact hu)
     have hr:r.length=size:=hs r (List.mem_cons_self ..);have hvl:q.2.cells.toList.length=r.length:=by rw[hlen,q1.2.1]
     have ih:=vE (o:=o+r.length) hM hps h2 (λx hx=>hs x (List.mem_cons_of_mem _ hx)) λi u hu=>by
      have:=hm (r.length+i) u (by
       simp only[List.map_cons,List.flatten_cons];rw[List.getElem?_append_right (by omega),hvl]
       rw[show r.length+i-r.length=i from by omega];exact hu)
      rw[Nat.add_assoc];exact this
     refine⟨by unfold RR;exact⟨q1.1,ih.1⟩,?_,?_,by simp[ih.2.2.2]⟩
     ·intro x hx;rcases List.mem_cons.1 hx with rfl|hx
      ·rw[<-Array.length_toList,hvl,hr]
      ·exact ih.2.1 x hx
     ·intro u hu;simp only[List.map_cons,List.flatten_cons]at hu;rcases List.mem_append.1 hu with hu|hu
      ·exact jC hc hone u hu
      ·exact ih.2.2.1 u hu
theorem CX{T e:TypeId}{d ed:aU}{len:Nat}{parts:Array (Nat×Operand)}{rows:List (List DV)}(ho:o.op=.buildSlice T len parts)(hok:d.ok P T)(hk:d.k=.sl e)(gN:ed.ok P e)
  (hidx:parts.toList.map (·.1)=List.range' 0 len) (hlen:parts.toList.length=len) (hrows:tW (parts.toList.map λp=>(p.1,s.arg p.2))=some rows) (hsz:∀r∈rows,r.length=ed.sz) (bo6:len*ed.sz<=16777216) (hlb:len<=16777216) (hp:j7 s parts.toList)
  (hs:cF E s a w) (aN:∀t,o.dst=some t->t<s.nt) (pre:Prop):bT P E s o a w ⟨pre,.d (.sl rows),.no⟩:=by
 obtain⟨g2,G,lm,g1,hM,hx,aK,_⟩:=hs;obtain⟨desc,h1,h2⟩:=hok.u;rw[hk]at h2;cases desc<;>simp only[TK.ok]at h2;have ze:=h2.symm;subst ze
 let qs:List (Nat×Value):=parts.toList.map λp=>(p.1,a.eval p.2)
 let vs:List Value:=(qs.map λq=>q.2.cells.toList).flatten
 have PN:=zn hM s.H.next vs;have hR:bH G s.H.next lm ((parts.toList.map λp=>(p.1,s.arg p.2)).map (·.2)) (qs.map (·.2)):=by
  simp only[qs,List.map_map];exact vI aK _ hp
 have hrr:=vE (M:=(xh G w.heap.size vs).M) (b:=w.heap.size) (o:=0) (size:=ed.sz) PN.M hrows hR hsz λi v hv=>by
  simp only[xh,if_true,Nat.zero_add];exact hv
 have zu:=hM.Ks vs e (0,0);obtain⟨z,tG,qD⟩:=vq gN w;have hrl:rows.length=len:=by rw[hrr.2.2.2];simpa using hlen
 have hrun:(execOp a.eval o).run P w=.ok (.value (.slice (some ⟨w.heap.size,0,none⟩) len len)) (w.alloc (.cells vs.toArray e (0,0))):=by
  have NQ:∀cs:Array Value,cs.size=len*ed.sz->Instr.fill (λi=>some (i*ed.sz,ed.sz)) cs (parts.map λp=>(p.1,a.eval p.2)).toList=some vs.toArray:=λcs hcs=>by
   have:=BQ ed.sz (λi=>some (i*ed.sz,ed.sz)) (λ_=>rfl) qs 0 cs (by simp only[qs,List.map_map,List.length_map,hlen];exact hidx) hrr.2.1 (by simp only[qs,List.length_map,hlen,Nat.zero_add];exact hcs)
   rw[Array.toList_map];simpa[vs]using this
  simp only[execOp,ho,Instr.buildSlice];simp[run_underlying h1,cL gN w,show¬(2^24<len*ed.sz)by omega]
  by_cases h0:len*ed.sz=0
  ·have h0':len=0\/ ed.sz=0:=Nat.mul_eq_zero.1 h0;have:=NQ (Array.map (λx=>default) (Array.range 0)) (by simp[h0])
   simp only[Array.toList_map]at this;simp[h0',h0,newRow];rw[this];simp
  ·have h0':¬(len=0\/ ed.sz=0):=λq=>h0 (Nat.mul_eq_zero.2 q)
   have:=NQ ((Array.range (len*ed.sz)).map λx=>z.cells[x%z.cells.size]!) (by simp)
   simp at this;simp[h0',tG,this,newRow];exact λq=>absurd q h0
 refine⟨_,_,_,hrun,.inl rfl,?_⟩;refine cF.mk' (L':=s.L) (H':=s.H) g2 (ct (Nat.le_refl _) PN _ _ g1) zu (hx.alloc PN (Nat.le_refl _) (λ_ _=>rfl) _) (ic (Nat.le_refl _) PN (λ_ _ e=>e) aK) ?_ aN
 unfold LR DR;refine⟨_,len,ed.sz,by rw[hrl],by omega,?_,hsz,?_⟩
 ·simp only[maxLen];omega
 ·exact .inr ⟨w.heap.size,0,rfl,hrr.1⟩
theorem x6{bR:TypeId->Option (List Sc)}(cW:nA P ty)(heq:zf P bR)(h:cG ty bR bO s o.dst o.op=some r)(hp:r.pre)(hs:cF E s a w)(aN:∀t,o.dst=some t->t<s.nt):bT P E s o a w r:=by
 obtain⟨dst,op,type,pos,after,guard⟩:=o;simp only at h aN;cases op with
 |move x=>simp only[cG,Option.some.injEq]at h;subst h;exact Nt (.inl rfl) hs aN hp
 |assign x=>simp only[cG,Option.some.injEq]at h;subst h;exact Nt (.inr rfl) hs aN hp
 |alloc T=>
  simp only[cG]at h;cases hT:ty T with
  |none=>simp[hT]at h
  |some d=>
   cases dst with
   |none=>simp[hT]at h
   |some t=>
    simp only[hT]at h;have hk:=RO (P:=P) (o:=⟨some t,.alloc T,type,pos,after,guard⟩) rfl (cW _ _ hT) rfl (aN t rfl) hs;cases ab2:bO t<;>simp[ab2]at h<;>subst h
    ·exact(hk _).1 hp
    ·exact(hk _).2
    ·exact(hk _).1 hp
    ·exact(hk _).1 hp
 |box T x=>
  simp only[cG]at h;cases hT:ty T with
  |none=>simp[hT]at h
  |some d=>
   cases dst with
   |none=>simp[hT]at h
   |some t=>
    simp only[hT]at h
    split at h
    ·rename_i hc;simp only[Bool.and_eq_true,decide_eq_true_eq]at hc;cases ab2:bO t<;>simp[ab2]at h<;>subst h
     ·exact(LX (P:=P) (o:=⟨some t,.box T x,type,pos,after,guard⟩) rfl hp.1 hc.1 rfl (aN t rfl) hs _).1 hp.2
     ·exact(LX (P:=P) (o:=⟨some t,.box T x,type,pos,after,guard⟩) rfl hp.1 hc.1 rfl (aN t rfl) hs _).2 hp.2
     ·exact Pc rfl hp hc.1 aN hs _
     ·exact(LX (P:=P) (o:=⟨some t,.box T x,type,pos,after,guard⟩) rfl hp.1 hc.1 rfl (aN t rfl) hs _).1 hp.2
    ·cases h
 |build T parts=>
  simp only[cG]at h;cases hT:ty T with
  |none=>simp[hT]at h
  |some d=>
   simp only[hT]at h
   split at h
   ·rename_i hf;simp only[Option.map_eq_some_iff]at h;obtain⟨cs,h1,h2⟩:=h;subst h2;exact RJ cW rfl hT (by cases hk:d.k<;>simp[hk,sx,TK.isAgg]at hf|-) (λfs hk p hp=>by rw[hk]at hf;simp[sx]at hf;exact hf p.1 p.2 hp) (λn e hk=>by rw[hk]at hf;simpa[sx]using hf) h1 hp hs aN _
   ·cases h
 |buildSlice T len parts=>
  simp only[cG]at h;cases hT:ty T with
  |none=>simp[hT]at h
  |some d=>
   obtain⟨k,sz,zero,bt⟩:=d;cases k<;>simp only[hT,reduceCtorEq]at h;rename_i e;cases he:ty e with
   |none=>simp[he]at h
   |some ed=>
    simp only[he,Option.bind_some]at h
    split at h
    ·rename_i hc;simp only[Option.map_eq_some_iff]at h;obtain⟨rows,h1,h2⟩:=h;subst h2;exact CX rfl (cW _ _ hT) rfl (cW _ _ he) hc.1 hc.2.1 h1 hp.2 hc.2.2.1 hc.2.2.2 hp.1 hs aN _
    ·cases h
 |load T p=>
  simp only[cG]at h;cases hT:ty T with
  |none=>simp[hT]at h
  |some d=>
   simp only[hT]at h
   split at h
   ·rename_i k off ha;cases hL:s.L k with
    |none=>simp[hL]at h
    |some cs=>
     simp only[hL,Option.bind_some,Option.map_eq_some_iff]at h;obtain⟨v,h1,h2⟩:=h;subst h2;exact LK rfl (cW _ _ hT) hp ha hL h1 hs aN _
   ·rename_i n off ha
    split at h
    ·rename_i cs hL;simp only[Option.map_eq_some_iff]at h;obtain⟨v,h1,h2⟩:=h;subst h2;exact LM rfl (cW _ _ hT) hp ha hL h1 hs aN _
    ·rename_i cs hL;simp only[Option.map_eq_some_iff]at h;obtain⟨v,h1,h2⟩:=h;subst h2;exact LN rfl (cW _ _ hT) hp ha hL h1 hs aN _
    ·cases h
   ·rename_i cs off ha;simp only[Option.map_eq_some_iff]at h;obtain⟨v,h1,h2⟩:=h;subst h2;exact LL rfl (cW _ _ hT) hp ha h1 hs aN _
   ·rename_i n g off ha
    split at h
    ·rename_i e g' sz cs ex hL
     split at h
     ·rename_i eg;subst eg;simp only[Option.map_eq_some_iff]at h;obtain⟨v,h1,h2⟩:=h;subst h2;exact LJ rfl (cW _ _ hT) hp ha hL h1 hs aN _
     ·cases h
    ·cases h
   ·rename_i xs es i off ha
    split at h
    ·rename_i lY;simp only[Option.some.injEq]at h;subst h;exact AO rfl (cW _ _ hT) hp.1 ha (.inl ⟨lY,hp.2,rfl⟩) hs aN _
    ·rename_i lY;simp only[Option.some.injEq]at h;subst h;exact AO rfl (cW _ _ hT) hp.1 ha (.inr ⟨by simpa using lY,hp.2,rfl⟩) hs aN _
   ·cases h
 |store T p x=>
  simp only[cG]at h;cases hT:ty T with
  |none=>simp[hT]at h
  |some d=>
   simp only[hT]at h
   split at h
   ·rename_i hc
    split at h
    ·rename_i k off ha;cases hL:s.L k with
     |none=>simp[hL]at h
     |some cs=>
      simp only[hL,Option.bind_some]at h
      split at h
      ·rename_i hfit;simp only[Option.some.injEq]at h;subst h;exact Ip rfl (cW _ _ hT) hp.1 hp.2 ha hL hc.1 hc.2 hfit hs aN _
      ·cases h
    ·rename_i n g off ha
     split at h
     ·rename_i e g' sz cs ex hL
      split at h
      ·rename_i hfit;obtain⟨eg,hfit⟩:=hfit;subst eg;simp only[Option.some.injEq]at h;subst h;exact Io rfl (cW _ _ hT) hp.1 hp.2.1 ha hL hc.1 hc.2 hfit hp.2.2 hs aN _
      ·cases h
     ·cases h
    ·rename_i n off ha
     split at h
     ·rename_i cs hL
      split at h
      ·rename_i hfit;simp only[Option.some.injEq]at h;subst h;exact Iq rfl (cW _ _ hT) hp.1 hp.2.1 ha hL hc.1 hc.2 hfit hp.2.2 hs aN _
      ·cases h
     ·cases h
    ·cases h
   ·cases h
 |nilCheck x=>
  simp only[cG]at h
  split at h
  ·rename_i hk;simp only[Option.some.injEq]at h;subst h;exact Is rfl hk hp hs aN _
  ·cases h
 |binOp op T x y yT=>
  simp only[cG,Option.map_eq_some_iff]at h;obtain⟨c,h1,h2⟩:=h;subst h2;exact Z6 cW heq rfl h1 hp.2.2 hp.1 hp.2.1 hs aN _
 |unOp op T x=>
  simp only[cG,Option.map_eq_some_iff]at h;obtain⟨c,h1,h2⟩:=h;subst h2;exact av3 rfl h1 hp hs aN _
 |fieldAddr T x f=>
  simp only[cG]at h;cases hT:ty T with
  |none=>simp[hT]at h
  |some d=>
   obtain⟨k,sz,zero,bt⟩:=d;cases k<;>simp only[hT,reduceCtorEq]at h;rename_i fs;cases hf:fs[f]? with
   |none=>simp[hf]at h
   |some p=>
    obtain⟨off,t⟩:=p;cases ht:ty t with
    |none=>simp[hf,ht]at h
    |some fd=>
     simp only[hf,ht,Option.bind_some]at h
     split at h
     ·cases h
     ·rename_i hz;simp only[Option.map_eq_some_iff]at h;obtain⟨v,h1,h2⟩:=h;subst h2;exact FG rfl (cW _ _ hT) rfl hf (cW _ _ ht) hz h1 hp hs aN _
 |field T x f=>
  simp only[cG]at h;cases hT:ty T with
  |none=>simp[hT]at h
  |some d=>
   obtain⟨k,sz,zero,bt⟩:=d;cases k<;>simp only[hT,reduceCtorEq]at h;rename_i fs
   split at h
   ·rename_i fs' _ _ cs e1 ha;cases e1;cases hf:fs[f]? with
    |none=>simp[hf]at h
    |some p=>
     obtain⟨off,t⟩:=p;cases ht:ty t with
     |none=>simp[hf,ht]at h
     |some fd=>
      simp only[hf,ht,Option.bind_some,Option.map_eq_some_iff]at h;obtain⟨v,h1,h2⟩:=h;subst h2;exact RI rfl (cW _ _ hT) rfl hf (cW _ _ ht) ha h1 hp hs aN _
   ·cases h
 |indexAddr T x i=>
  simp only[cG]at h
  split at h
  ·rename_i e sz zero bt k n hT hi
   split at h
   ·rename_i m g sz' j len hx;cases he:ty e with
    |none=>simp[he]at h
    |some ed=>
     simp only[he,Option.bind_some]at h
     split at h
     ·rename_i hsz;simp only[Option.some.injEq]at h;subst h;exact LO rfl (cW _ _ hT) rfl (cW _ _ he) hi hx hsz hp.2.2.1 hp.2.2.2 hp.1 hp.2.1 hs aN _
     ·cases h
   ·cases hx:rowsOf (s.arg x)with
    |none=>simp[hx]at h
    |some xs=>
     simp only[hx,Option.bind_some,Option.map_eq_some_iff]at h;obtain⟨ed,h1,h2⟩:=h;subst h2;exact LQ rfl (cW _ _ hT) rfl (cW _ _ h1) hi hx hp.2.2.1 hp.2.2.2.1 hp.2.2.2.2 hp.1 hp.2.1 hs aN _
  ·rename_i len e sz zero bt k n hT hi;cases he:ty e with
   |none=>simp[he]at h
   |some ed=>
    simp only[he,Option.bind_some,Option.map_eq_some_iff]at h;obtain⟨v,h1,h2⟩:=h;subst h2;exact Iu rfl (cW _ _ hT) rfl (cW _ _ he) hi h1 hp.2.2.1 hp.2.2.2 hp.1 hp.2.1 hs aN _
  ·cases h
 |extract x i=>
  simp only[cG]at h
  split at h
  ·rename_i vs ha;simp only[Option.map_eq_some_iff]at h;obtain⟨v,h1,h2⟩:=h;subst h2;exact LU rfl ha h1 hp hs aN _
  ·cases h
 |makeFunc fn first cap=>simp only[cG,Option.some.injEq]at h;subst h;exact rM rfl hs aN _
 |makeMap T rv=>
  cases rv with
  |none=>simp only[cG,Option.some.injEq]at h;subst h;exact LI rfl hs aN _
  |some v=>simp[cG]at h
 |_=>simp[cG]at h
end
end Go.Aft
end
