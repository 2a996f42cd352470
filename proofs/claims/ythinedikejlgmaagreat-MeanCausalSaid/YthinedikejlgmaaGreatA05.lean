import Derived.Test.YthinedikejlgmaaGreatA04
import Derived.Laws.BytesString
set_option linter.all false
section
namespace Go.Aft
section
variable {P:Program} {ty:TypeId->Option aU} {E:tL} {s:S} {a:Act} {w:World} {o:Oper}
theorem FY{G:Gh}{lm:Nat->Option Nat}(aK:∀t,LR G s.H.next lm (s.env t) (a.tmps.getD t undef)){x:Operand}{k:IntKind}{n:Int}(h:s.arg x=.d (.k (.int k n)))(hp:s.aI x):a.eval x=.int k n:=by
 have:=aW aK x hp;rw[h]at this;unfold LR DR at this;exact this.1
theorem EN{k:IntKind}{n:Int}{y:Nat}{code:BoundsCode}(h0:0<=n)(h1:n<=y):(Instr.sliceBound (.int k n) y code).run P w=.ok n.toNat w:=by
 simp[Instr.sliceBound,asIntOf,h0,h1]
theorem R2{G:Gh}{lm:Nat->Option Nat}(aK:∀t,LR G s.H.next lm (s.env t) (a.tmps.getD t undef)){lo:Option Operand}{l:Int}{h:Nat}{code:BoundsCode}(hl:ir s lo=some l)(hp:gz s lo)(h0:0<=l)(h1:l<=h):
  ((match lo.map a.eval with|some v=>Instr.sliceBound v h code|none=>pure 0:Sem Nat)).run P w=.ok l.toNat w:=by
 cases lo with
 |none=>simp[ir]at hl;subst hl;rfl
 |some x=>
  simp only[ir]at hl
  split at hl
  ·rename_i k n e;cases hl;simp only[Option.map_some];rw[FY aK e hp];exact EN h0 h1
  ·cases hl
theorem Sx{G:Gh}{lm:Nat->Option Nat}(aK:∀t,LR G s.H.next lm (s.env t) (a.tmps.getD t undef)){hi:Option Operand}{h:Int}{len cap:Nat}{code:BoundsCode}(hl:gM s len hi=some h)(hp:gz s hi)(h0:0<=h)(h1:h<=cap):
  ((match hi.map a.eval with|some v=>Instr.sliceBound v cap code|none=>pure len:Sem Nat)).run P w=.ok h.toNat w:=by
 cases hi with
 |none=>simp[gM]at hl;subst hl;rfl
 |some x=>
  simp only[gM]at hl
  split at hl
  ·rename_i k n e;cases hl;simp only[Option.map_some];rw[FY aK e hp];exact EN h0 h1
  ·cases hl
theorem u6{G:Gh}{lm:Nat->Option Nat}(aK:∀t,LR G s.H.next lm (s.env t) (a.tmps.getD t undef)){lo hi:Option Operand}{l h:Int}{len cap:Nat}(e1:ir s lo=some l)(e2:gM s len hi=some h)(p1:gz s lo)(p2:gz s hi)(h0:0<=l)(h1:l<=h)(h2:h<=len)(h3:len<=cap):
  (Instr.sliceBounds true len cap (lo.map a.eval) (hi.map a.eval) none).run P w=.ok (l.toNat,h.toNat,cap) w:=by
 have q1:∀code,((match hi.map a.eval with|some v=>Instr.sliceBound v cap code|none=>pure len:Sem Nat)).run P w=.ok h.toNat w:=λcode=>Sx aK e2 p2 (by omega) (by omega)
 have q2:∀code,((match lo.map a.eval with|some v=>Instr.sliceBound v h.toNat code|none=>pure 0:Sem Nat)).run P w=.ok l.toNat w:=λcode=>R2 aK e1 p1 h0 (by omega)
 unfold Instr.sliceBounds;cases hi with
 |none=>
  cases lo with
  |none=>
   have a1:=q1 .sliceB;have a2:=q2 .sliceB;simp at a1 a2|-
   simp_all
  |some x=>
   have a1:=q1 .sliceB;have a2:=q2 .sliceB;simp at a1 a2|-;rw[a1];simp[a2]
 |some y=>
  cases lo with
  |none=>
   have a1:=q1 .sliceAcap;have a2:=q2 .sliceB;simp at a1 a2|-;simp[a1,a2]
  |some x=>
   have a1:=q1 .sliceAcap;have a2:=q2 .sliceB;simp at a1 a2|-;simp[a1,a2]
theorem Kj{G:Gh}{lm:Nat->Option Nat}(aK:∀t,LR G s.H.next lm (s.env t) (a.tmps.getD t undef)){lo hi:Option Operand}{l h:Int}{len:Nat}(e1:ir s lo=some l)(e2:gM s len hi=some h)(p1:gz s lo)(p2:gz s hi)(h0:0<=l)(h1:l<=h)(h2:h<=len):
  (Instr.sliceBounds false len len (lo.map a.eval) (hi.map a.eval) none).run P w=.ok (l.toNat,h.toNat,len) w:=by
 have q1:∀code,((match hi.map a.eval with|some v=>Instr.sliceBound v len code|none=>pure len:Sem Nat)).run P w=.ok h.toNat w:=λcode=>Sx aK e2 p2 (by omega) (by omega)
 have q2:∀code,((match lo.map a.eval with|some v=>Instr.sliceBound v h.toNat code|none=>pure 0:Sem Nat)).run P w=.ok l.toNat w:=λcode=>R2 aK e1 p1 h0 (by omega)
 unfold Instr.sliceBounds;cases hi with
 |none=>
  cases lo with
  |none=>
   have a1:=q1 .sliceB;have a2:=q2 .sliceB;simp at a1 a2|-
   simp_all
  |some x=>
   have a1:=q1 .sliceB;have a2:=q2 .sliceB;simp at a1 a2|-;rw[a1];simp[a2]
 |some y=>
  cases lo with
  |none=>
   have a1:=q1 .sliceAlen;have a2:=q2 .sliceB;simp at a1 a2|-;simp[a1,a2]
  |some x=>
   have a1:=q1 .sliceAlen;have a2:=q2 .sliceB;simp at a1 a2|-;simp[a1,a2]
theorem No{G:Gh}{nx:Nat}{lm:Nat->Option Nat}{x:LV}{v:Value}{xs:List (List DV)}(h:LR G nx lm x v)(hx:rowsOf x=some xs):DR G.M (.sl xs) v:=by
 unfold rowsOf at hx
 split at hx
 ·cases hx;simpa[LR]using h
 ·cases hx;unfold LR at h;exact h.2.1
 ·cases hx;unfold LR DR at h;unfold DR;exact⟨none,0,0,h.1,by simp,by simp,by simp,.inl rfl⟩
 ·cases hx
theorem ok_slice{T e:TypeId}{d ed:aU}{x:Operand}{lo hi:Option Operand}{xs:List (List DV)}{l h:Int}(ho:o.op=.slice T x lo hi none)(hok:d.ok P T)(hk:d.k=.sl e)(gN:ed.ok P e)(hx:rowsOf (s.arg x)=some xs)
  (e1:ir s lo=some l) (e2:gM s xs.length hi=some h) (hp:s.aI x) (p1:gz s lo) (p2:gz s hi) (h0:0<=l) (h1:l<=h) (h2:h<=xs.length) (hr:∀r∈xs,r.length=ed.sz)
  (hs:cF E s a w) (aN:∀t,o.dst=some t->t<s.nt) (pre:Prop):bT P E s o a w ⟨pre,.d (.sl ((xs.take h.toNat).drop l.toNat)),.no⟩:=
 bT.pure hs aN λG lm _ aK=>by
  obtain⟨desc,g1,g2⟩:=hok.u;rw[hk]at g2;cases desc<;>simp only[TK.ok]at g2;subst g2;have hD:=No (aW aK x hp) hx;unfold DR at hD;obtain⟨ad,cap,sz,ev,c1,c2,c3,c4⟩:=hD;have hb:=u6 (P:=P) (w:=w) (cap:=cap) aK e1 e2 p1 p2 h0 h1 h2 c1;refine⟨.slice (if cap=l.toNat then ad else ad.map (·.add (l.toNat*ed.sz))) (h.toNat-l.toNat) (cap-l.toNat),?_,?_⟩
  ·simp[execOp,ho,Instr.sliceAt,Instr.slice,run_underlying g1,ev,hb,cL gN w]
  ·unfold LR DR;have hlen:((xs.take h.toNat).drop l.toNat).length=h.toNat-l.toNat:=by simp;omega
   refine⟨_,_,ed.sz,by rw[hlen],by omega,by omega,λr hm=>hr r (List.mem_of_mem_take (List.mem_of_mem_drop hm)),?_⟩
   by_cases hz:(xs.take h.toNat).drop l.toNat=[]
   ·exact .inl hz
   ·right;have hne:l.toNat≠h.toNat:=λq=>by rw[<-List.length_eq_zero_iff,hlen]at hz;omega
    rcases c4 with q|⟨b,off,ea,hR⟩
    ·subst q;simp at hz
    ·subst ea;refine⟨b,off+l.toNat*ed.sz,?_,?_⟩
     ·rw[if_neg (by omega)];simp[ef]
     ·refine Gz (sz:=ed.sz) (λr hm=>hr r (List.mem_of_mem_take hm)) (Gx hR _) _ ?_
      simp;omega
theorem RH{T:TypeId}{d:aU}{x i:Operand}{z:ByteArray}{k:IntKind}{n:Int}(ho:o.op=.index T x i)(hok:d.ok P T)(hk:d.k=.str)(hx:s.arg x=.d (.k (.string z)))(hi:s.arg i=.d (.k (.int k n)))(hp:s.aI x)(hq:s.aI i)
  (h0:0<=n) (h1:n<z.size) (hs:cF E s a w) (aN:∀t,o.dst=some t->t<s.nt) (pre:Prop):bT P E s o a w ⟨pre,.d (.k (.int .u8 (jH z n))),.no⟩:=
 bT.pure hs aN λG lm _ aK=>by
  obtain⟨desc,g1,g2⟩:=hok.u;rw[hk]at g2;cases desc<;>simp only[TK.ok]at g2;have hx':=aW aK x hp;rw[hx]at hx';unfold LR DR at hx';have hlt:n.toNat<z.size:=by omega
  refine⟨.int .u8 (jH z n),?_,by unfold LR DR;exact⟨rfl,rfl⟩⟩
  simp[execOp,ho,Instr.index,FY aK hi hq,asIntOf,run_underlying g1,hx'.1,h0,jH,hlt]
theorem oQ{T:TypeId}{d:aU}{x:Operand}{v:Value}(ho:o.op=.makeInterface T x)(hok:d.ok P T)(hk:∀b,d.k≠ .iface b)(hp:s.aI x)(hx:∀G lm,(∀t,LR G s.H.next lm (s.env t) (a.tmps.getD t undef))->a.eval x=v)
  (hs:cF E s a w) (aN:∀t,o.dst=some t->t<s.nt) (pre:Prop):bT P E s o a w ⟨pre,.d (.k (.iface T v)),.no⟩:=
 bT.pure hs aN λG lm _ aK=>by
  obtain⟨desc,g1,g2⟩:=hok.u;have hn:∀ms,desc≠ .interface ms:=λms e=>by
   subst e;cases hd:d.k<;>rw[hd]at g2<;>simp only[TK.ok]at g2;exact hk _ hd
  refine⟨.iface T v,?_,by unfold LR DR;exact⟨rfl,rfl⟩⟩
  cases desc<;>first|exact absurd rfl (hn _)|simp[execOp,ho,Instr.makeInterface,run_underlying g1,hx G lm aK]
theorem LW{A B:TypeId}{d:aU}{x:Operand}{k j:IntKind}{n:Int}(ho:o.op=.convert A B x)(hA:∃u,P.underlying A=some u)(hok:d.ok P B)(hk:d.k=.int k)(hp:s.aI x)(hx:s.arg x=.d (.k (.int j n)))
  (hs:cF E s a w) (aN:∀t,o.dst=some t->t<s.nt) (pre:Prop):bT P E s o a w ⟨pre,.d (.k (.int k (k.wrap n))),.no⟩:=
 bT.pure hs aN λG lm _ aK=>by
  obtain⟨desc,g1,g2⟩:=hok.u;rw[hk]at g2;obtain⟨u,hu⟩:=hA;cases desc<;>simp only[TK.ok]at g2;subst g2;refine⟨.int _ (IntKind.wrap _ n),?_,by unfold LR DR;exact⟨rfl,rfl⟩⟩
  simp[execOp,ho,convert,FY aK hx hp,run_underlying g1,run_underlying hu,Conv.intToInt]
theorem KE{M:Mem}:∀{xs:List (List DV)} {ns:List Int} {b o:Nat},u5 xs=some ns->RR M b o xs->xs.length=ns.length/\∀(j:Nat) (u:Value),(ns.map (Value.int .u8))[j]?=some u->M b (o+j)=some u
 |[],ns,b,o,h,_=>by
  simp only[u5,Option.some.injEq]at h;subst h;exact⟨rfl,λj u hu=>by simp at hu⟩
 |[.k (.int .u8 n)]::r,ns,b,o,h,hR=>by
  simp only[u5,Option.map_eq_some_iff]at h;obtain⟨ms,h,rfl⟩:=h;unfold RR RC at hR;obtain⟨⟨⟨v,h1,h2⟩,_⟩,h3⟩:=hR;unfold DR at h2;obtain⟨rfl,_⟩:=h2;obtain⟨i1,i2⟩:=KE h h3;refine⟨by simp[i1],λj u hu=>?_⟩
  cases j with
  |zero=>simp at hu;subst hu;exact h1
  |succ j=>
   have:=i2 j u (by simpa using hu)
   rw[show o+(j+1)=o+[DV.k (Value.int .u8 n)].length+j by simp;omega];exact this
theorem Iv{A B e:TypeId}{dA dB de:aU}{x:Operand}{xs:List (List DV)}{ns:List Int}(ho:o.op=.convert A B x)(hA:dA.ok P A)(hB:dB.ok P B)(he:de.ok P e)(kA:dA.k=.sl e)(kB:dB.k=.str)(ke:de.k=.int .u8)(hp:s.aI x)(hx:s.arg x=.d (.sl xs))(hb:u5 xs=some ns)
  (hs:cF E s a w) (aN:∀t,o.dst=some t->t<s.nt) (pre:Prop):bT P E s o a w ⟨pre,.d (.k (.string (Rb ns))),.no⟩:=
 bT.pure hs aN λG lm hM aK=>by
  obtain⟨d1,g1,g2⟩:=hA.u;obtain⟨d2,g3,g4⟩:=hB.u;obtain⟨d3,g5,g6⟩:=he.u;rw[kA]at g2;rw[kB]at g4;rw[ke]at g6;have h1:=aW aK x hp;rw[hx]at h1;unfold LR DR at h1;obtain⟨p,cap,sz,q1,q2,q3,q4,q5⟩:=h1;cases d1<;>simp only[TK.ok]at g2;cases d2<;>simp only[TK.ok]at g4;cases d3<;>simp only[TK.ok]at g6;subst g2;subst g6;refine⟨.string (Rb ns),?_,by unfold LR DR;exact⟨rfl,rfl⟩⟩
  have hc:=run_convert_bytes_string w A B _ p xs.length cap g1 g5 g3;simp only[execOp,ho,q1];have:(Conv.bytesToString (.slice p xs.length cap)).run P w=.ok (.string (Rb ns)) w:=by
   rcases q5 with rfl|⟨b,o',rfl,hR⟩
   ·simp only[u5,Option.some.injEq]at hb;subst hb;cases p with
    |none=>simp[Conv.bytesToString,Rb]
    |some p=>exact run_bytesToString w p 0 cap [] (by simp[loadCells,loadCellsFrom])
   ·obtain⟨r1,r2⟩:=KE hb hR;refine run_bytesToString w _ _ cap ns ?_;have hrun:=run_loadCells_list (P:=P) w ⟨b,o',none⟩ (ns.map (Value.int .u8)) (λj u hu=>by
     rw[ef];exact hM.qC _ _ _ (r2 j u hu))
    rw[List.length_map]at hrun;rw[r1];exact hrun
  simp[hc,this]
theorem oO{r:vo}(cW:nA P ty)(h:DG ty s o.op=some r)(hp:r.pre)(hs:cF E s a w)(aN:∀t,o.dst=some t->t<s.nt):bT P E s o a w r:=by
 cases hop:o.op with
 |slice T x lo hi mx=>
  rw[hop]at h;cases mx with
  |some m=>simp[DG]at h
  |none=>
   simp only[DG]at h
   split at h
   ·rename_i e sz zero bt hT;simp only[Option.bind_eq_some_iff,Option.map_eq_some_iff]at h;obtain⟨ed,he,xs,hx,l,e1,hh,e2,rfl⟩:=h;obtain⟨p1,p2,p3,p4,p5,p6,p7⟩:=hp;exact ok_slice hop (cW _ _ hT) rfl (cW _ _ he) hx e1 e2 p1 p2 p3 p4 p5 p6 p7 hs aN _
   ·cases h
 |index T x i=>
  rw[hop]at h;simp only[DG]at h
  split at h
  ·rename_i sz zero bt z k n hT hx hi;cases h;exact RH hop (cW _ _ hT) rfl hx hi hp.1 hp.2.1 hp.2.2.1 hp.2.2.2 hs aN _
  ·cases h
 |makeInterface T x=>
  rw[hop]at h;simp only[DG]at h
  split at h
  ·cases h
  ·rename_i d v hne hT hx;cases h;refine oQ hop (cW _ _ hT) (λb e=>?_) hp (λG lm aK=>?_) hs aN _
   ·obtain⟨k,sz,zero,bt⟩:=d;simp only at e;subst e;exact hne _ _ _ _ rfl
   ·have:=aW aK x hp;rw[hx]at this;unfold LR DR at this;exact this.1
  ·rename_i d cs hne hT hx;simp only[Option.map_eq_some_iff]at h;obtain⟨vs,hc,rfl⟩:=h;refine oQ hop (cW _ _ hT) (λb e=>?_) hp (λG lm aK=>?_) hs aN _
   ·obtain⟨k,sz,zero,bt⟩:=d;simp only at e;subst e;exact hne _ _ _ _ rfl
   ·have:=aW aK x hp;rw[hx]at this;unfold LR at this;obtain⟨us,e1,e2⟩:=this;rw[e1,mY hc e2]
  ·cases h
 |convert A B x=>
  rw[hop]at h;simp only[DG]at h
  split at h
  ·rename_i dA k sz zero bt j n hA hB hx;cases h;exact LW hop ⟨_,(cW _ _ hA).u.choose_spec.1⟩ (cW _ _ hB) rfl hp hx hs aN _
  ·rename_i e _ _ _ _ _ _ xs hA hB hx
   split at h
   ·rename_i he;simp only[Option.map_eq_some_iff]at h;obtain⟨ns,hb,rfl⟩:=h;exact Iv hop (cW _ _ hA) (cW _ _ hB) (cW _ _ he) rfl rfl rfl hp hx hb hs aN _
   ·cases h
  ·cases h
 |_=>rw[hop]at h;simp[DG]at h
def TZ(k:TK)(v:Value)(b:Bool):Prop:=match k with
 |.ptr _=>∃p,v=.pointer p/\p.isNone=b
 |.iface _=>(v=.nilIface/\b=true)\/ (∃T u,v=.iface T u)/\b=false
 |.map _ _=>∃p,v=.map p/\p.isNone=b
 |.func=>(v=.nilFunc/\b=true)\/ (∃f x y,v=.func f x y)/\b=false
 |.sl _=>(∃l c,v=.slice none l c)/\b=true\/ (∃a l c,v=.slice (some a) l c)/\b=false
 |_=>False
theorem vO{G:Gh}{nx:Nat}{lm:Nat->Option Nat}{k:TK}{x:LV}{v:Value}{b:Bool}(h:zl k x=some b)(hv:LR G nx lm x v):TZ k v b:=by
 unfold zl at h
 split at h<;>cases h<;>unfold LR at hv<;>unfold TZ
 ·unfold DR at hv;exact⟨none,hv.1,rfl⟩
 ·obtain⟨_,_,rfl⟩:=hv;exact⟨_,rfl,rfl⟩
 ·obtain⟨_,rfl⟩:=hv;exact⟨_,rfl,rfl⟩
 ·obtain⟨_,_,rfl,_⟩:=hv;exact⟨_,rfl,rfl⟩
 ·unfold DR at hv;exact .inl ⟨hv.1,rfl⟩
 ·unfold DR at hv;exact .inr ⟨⟨_,_,hv.1⟩,rfl⟩
 ·unfold DR at hv;exact⟨none,hv.1,rfl⟩
 ·obtain⟨_,rfl⟩:=hv;exact⟨_,rfl,rfl⟩
 ·unfold DR at hv;exact .inl ⟨hv.1,rfl⟩
 ·obtain⟨_,_,rfl,_⟩:=hv;exact .inr ⟨⟨_,_,_,rfl⟩,rfl⟩
 ·unfold DR at hv;rename_i a l c;cases a with
  |none=>exact .inl ⟨⟨l,c,hv.1⟩,rfl⟩
  |some a=>exact .inr ⟨⟨a,l,c,hv.1⟩,rfl⟩
 ·unfold DR at hv;obtain⟨a,cap,sz,rfl,_,_,_,q⟩:=hv;rcases q with q|⟨b,o,rfl,_⟩
  ·cases q
  ·exact .inr ⟨⟨_,_,_,rfl⟩,rfl⟩
 ·obtain⟨_,_,b,o,cap,rfl,_⟩:=hv;exact .inr ⟨⟨_,_,_,rfl⟩,rfl⟩
theorem Tg(m:Nat){k:TK}{desc:TypeDesc}{v n:Value}{b:Bool}{T:TypeId}(hu:P.underlying T=some desc)(hk:k.ok desc)(hn:rN k n=true)(hv:TZ k v b):(Op.equalIn (m+1) T v n).run P w=.ok b w:=by
 unfold rN at hn
 split at hn
 ·obtain⟨p,rfl,rfl⟩:=hv;cases desc<;>simp only[TK.ok]at hk;cases p<;>simp[Op.equalIn,run_underlying hu]
 ·cases desc<;>simp only[TK.ok]at hk;rcases hv with⟨rfl,rfl⟩|⟨⟨t,u,rfl⟩,rfl⟩<;>simp[Op.equalIn,run_underlying hu]
 ·obtain⟨p,rfl,rfl⟩:=hv;cases desc<;>simp only[TK.ok]at hk;cases p<;>simp[Op.equalIn,run_underlying hu]
 ·cases desc<;>simp only[TK.ok]at hk;rcases hv with⟨rfl,rfl⟩|⟨⟨f,x,y,rfl⟩,rfl⟩<;>simp[Op.equalIn,run_underlying hu]
 ·cases desc<;>simp only[TK.ok]at hk;rcases hv with⟨⟨l,c,rfl⟩,rfl⟩|⟨⟨a,l,c,rfl⟩,rfl⟩<;>simp[Op.equalIn,run_underlying hu]
 ·cases hn
theorem Nv{k:TK}{desc:TypeDesc}{v n:Value}{b:Bool}{T:TypeId}(hu:P.underlying T=some desc)(hk:k.ok desc)(hn:rN k n=true)(hv:TZ k v b):
  (binOp .eql T v n).run P w=.ok (.bool b) w/\(binOp .neq T v n).run P w=.ok (.bool (!b)) w:=by
 have h:(Op.equal T v n).run P w=.ok b w:=Tg 9999 hu hk hn hv;unfold rN at hn
 split at hn<;>first|(cases hn;done)|skip
 ·obtain⟨p,rfl,rfl⟩:=hv;constructor<;>(simp only[binOp];simp[h])
 ·rcases hv with⟨rfl,rfl⟩|⟨⟨t,u,rfl⟩,rfl⟩<;>constructor<;>(simp only[binOp];simp[h])
 ·obtain⟨p,rfl,rfl⟩:=hv;constructor<;>(simp only[binOp];simp[h])
 ·rcases hv with⟨rfl,rfl⟩|⟨⟨f,x,y,rfl⟩,rfl⟩<;>constructor<;>(simp only[binOp];simp[h])
 ·rcases hv with⟨⟨l,c,rfl⟩,rfl⟩|⟨⟨a,l,c,rfl⟩,rfl⟩<;>constructor<;>(simp only[binOp];simp[h])
theorem yK{k:TK}{op:BinOp}{T:TypeId}{x:Operand}{v n:Value}{b:Bool}(hn:rN k n=true)(hv:TZ k v b):(eqGuard op T x (.const n) v n).run P w=.ok () w:=by
 unfold rN at hn
 split at hn<;>first|(cases hn;done)|skip
 ·obtain⟨p,rfl,rfl⟩:=hv;cases op<;>simp[eqGuard]
 ·rcases hv with⟨rfl,rfl⟩|⟨⟨t,u,rfl⟩,rfl⟩<;>cases op<;>simp[eqGuard]
 ·obtain⟨p,rfl,rfl⟩:=hv;cases op<;>simp[eqGuard]
 ·rcases hv with⟨rfl,rfl⟩|⟨⟨f,x,y,rfl⟩,rfl⟩<;>cases op<;>simp[eqGuard]
 ·rcases hv with⟨⟨l,c,rfl⟩,rfl⟩|⟨⟨a,l,c,rfl⟩,rfl⟩<;>cases op<;>simp[eqGuard]
theorem FK{r:vo}{op:BinOp}{T yT:TypeId}{x y:Operand}(cW:nA P ty)(ho:o.op=.binOp op T x y yT)(h:mM ty s op T x y=some r)(hp:r.pre)(hs:cF E s a w)(aN:∀t,o.dst=some t->t<s.nt):bT P E s o a w r:=by
 unfold mM at h
 split at h
 ·rename_i v;simp only[Option.bind_eq_some_iff]at h;obtain⟨d,hT,h⟩:=h
  split at h
  ·rename_i hn;simp only[Option.bind_eq_some_iff]at h;obtain⟨b,hb,h⟩:=h;obtain⟨desc,g1,g2⟩:=(cW T d hT).u
   split at h
   ·cases h;refine bT.pure hs aN λG lm _ aK=>⟨.bool b,?_,by unfold LR DR;exact⟨rfl,rfl⟩⟩
    have hv:=vO hb (aW aK x hp);have h1:=Nv (w:=w) g1 g2 hn hv;have h2:=yK (P:=P) (w:=w) (op:=.eql) (T:=T) (x:=x) hn hv;have he:a.eval (.const v)=v:=rfl;simp[execOp,ho,he,h1.1,h2]
   ·cases h;refine bT.pure hs aN λG lm _ aK=>⟨.bool (!b),?_,by unfold LR DR;exact⟨rfl,rfl⟩⟩
    have hv:=vO hb (aW aK x hp);have h1:=Nv (w:=w) g1 g2 hn hv;have h2:=yK (P:=P) (w:=w) (op:=.neq) (T:=T) (x:=x) hn hv;have he:a.eval (.const v)=v:=rfl;simp[execOp,ho,he,h1.2,h2]
   ·cases h
  ·cases h
 ·cases h
end
end Go.Aft
end
section
namespace Go.Aft
section
variable {P:Program} {ty:TypeId->Option aU} {bR:TypeId->Option (List Sc)} {bO:Nat->Kd} {E:tL} {s:S} {a:Act} {w:World} {o:Oper} {r:vo}
theorem uz{G:Gh}{nx:Nat}{lm:Nat->Option Nat}{x:LV}{v:Value}{xs:List (List DV)}(h:LR G nx lm x v)(hx:rowsOf x=some xs):∃A cap,v=.slice A xs.length cap:=by
 rcases Fp h hx with⟨cap,rfl,rfl⟩|hD
 ·exact⟨none,cap,rfl⟩
 ·unfold DR at hD;obtain⟨A,cap,sz,rfl,_⟩:=hD;exact⟨A,cap,rfl⟩
theorem x7{b:Builtin}{args:Array Operand}{tys:Array TypeId}{pre:Prop}{v:LV}(ho:o.op=.call ⟨.builtin b,args,tys⟩)(hs:cF E s a w)(aN:∀t,o.dst=some t->t<s.nt)
  (h:∀G lm,MR G lm s.L s.H w->(∀t,LR G s.H.next lm (s.env t) (a.tmps.getD t undef))->∃v',(∀cs,(builtin b tys o.type cs (args.map a.eval)).run P w=.ok (.value v') w)/\LR G s.H.next lm v v'):bT P E s o a w ⟨pre,v,.no⟩:=
 bT.pure hs aN λG lm hM aK=>by
  obtain⟨v',h1,h2⟩:=h G lm hM aK;exact⟨v',by simp only[execOp,ho,resolve];simp[invoke,h1],h2⟩
theorem M9{M:Mem}{c:DV}{v:Value}(h:DR M c v):v.oneCell'=true:=by
 cases c with
 |k u=>unfold DR at h;rw[h.1];exact h.2
 |sl xs=>unfold DR at h;obtain⟨_,_,_,rfl,_⟩:=h;rfl
theorem Ou{M:Mem}{b:Nat}:∀{r:List DV} {o:Nat},RC M b o r->∃vs:List Value,vs.length=r.length/\(∀(i:Nat) (v:Value),vs[i]?=some v->M b (o+i)=some v/\v.oneCell'=true)/\
  ∀(M':Mem) (b' o':Nat),M.le M'->(∀(i:Nat) (v:Value),vs[i]?=some v->M' b' (o'+i)=some v)->RC M' b' o' r
 |[],o,h=>⟨[],rfl,by simp,λ_ _ _ _ _=>by simp[RC]⟩
 |c::cs,o,h=>by
  unfold RC at h;obtain⟨⟨v,h1,h2⟩,h3⟩:=h;obtain⟨vs,g1,g2,g3⟩:=Ou h3;refine⟨v::vs,by simp[g1],λi u hu=>?_,λM' b' o' hM hh=>?_⟩
  ·cases i with
   |zero=>simp at hu;subst hu;exact⟨h1,M9 h2⟩
   |succ i=>simp at hu;have:=g2 i u hu;rw[show o+(i+1)=o+1+i from by omega];exact this
  ·unfold RC;refine⟨⟨v,by simpa using hh 0 v rfl,qx hM _ _ h2⟩,g3 M' b' (o'+1) hM λi u hu=>?_⟩
   have:=hh (i+1) u (by simpa using hu)
   rw[show o'+1+i=o'+(i+1)from by omega];exact this
theorem GA{M:Mem}{b sz:Nat}:∀{xs:List (List DV)} {o:Nat},(∀r∈xs,r.length=sz)->RR M b o xs->∃vs:List Value,vs.length=xs.length*sz/\(∀(i:Nat) (v:Value),vs[i]?=some v->M b (o+i)=some v/\v.oneCell'=true)/\
  ∀(M':Mem) (b' o':Nat),M.le M'->(∀(i:Nat) (v:Value),vs[i]?=some v->M' b' (o'+i)=some v)->RR M' b' o' xs
 |[],o,_,h=>⟨[],by simp,by simp,λ_ _ _ _ _=>by simp[RR]⟩
 |x::xs,o,hs,h=>by
  unfold RR at h;obtain⟨vs,g1,g2,g3⟩:=Ou h.1;obtain⟨us,q1,q2,q3⟩:=GA (λr hr=>hs r (List.mem_cons_of_mem _ hr)) h.2
  have hx:=hs x (List.mem_cons_self ..);refine⟨vs++us,by simp[g1,q1,hx,Nat.succ_mul,Nat.add_comm],λi u hu=>?_,λM' b' o' hM hh=>?_⟩
  ·rw[List.getElem?_append]at hu
   split at hu
   ·exact g2 i u hu
   ·rename_i hi;have:=q2 _ u hu;rw[show o+x.length+(i-vs.length)=o+i from by omega]at this;exact this
  ·unfold RR;refine⟨g3 M' b' o' hM λi u hu=>hh i u ?_,q3 M' b' _ hM λi u hu=>?_⟩
   ·rw[List.getElem?_append_left (List.getElem?_eq_some_iff.1 hu).1];exact hu
   ·have:=hh (vs.length+i) u (by rw[List.getElem?_append_right (by omega)];rw[show vs.length+i-vs.length=i from by omega];exact hu)
    rw[show o'+x.length+i=o'+(vs.length+i)from by omega];exact this
theorem zZ{sz:Nat}:∀{xs:List (List DV)},(∀r∈xs,r.length=sz)->(xs.map (·.length)).sum=xs.length*sz
 |[],_=>by simp
 |x::xs,h=>by
  simp only[List.map_cons,List.sum_cons,List.length_cons,Nat.succ_mul];rw[zZ λr hr=>h r (List.mem_cons_of_mem _ hr),h x (List.mem_cons_self ..)];omega
theorem lH{T e:TypeId}{d ed:aU}(hok:d.ok P T)(hk:d.k=.sl e)(gN:ed.ok P e)(ty':TypeId)(A B:Option Addr)(n c c':Nat)(h:n<=c)(w:World):
  (Builtin.append_ #[T,T] ty' #[.slice A n c,.slice B 0 c']).run P w=.ok (.slice A n c) w:=by
 obtain⟨desc,h1,h2⟩:=hok.u;rw[hk]at h2;cases desc<;>simp only[TK.ok]at h2;subst h2;cases A<;>cases B<;>simp[Builtin.append_,run_underlying h1,cL gN w,Builtin.lenOf,h,Builtin.firstCells,loadCells,loadCellsFrom,storeCells]
theorem CB(H:GH)(o o':GO):(H.add o).set H.next o'=H.add o':=by
 unfold GH.add GH.set
 congr 1
 funext x
 simp only[eL]
 split<;>rfl
def SlT(P:Program)(T T':TypeId):Prop:=T'=T\/ ∃(d:aU) (e:TypeId),d.ok P T'/\d.k=.sl e
theorem Gv{T T' e:TypeId}{d ed:aU}(hok:d.ok P T)(hk:d.k=.sl e)(gN:ed.ok P e)(hT:SlT P T T')(ty':TypeId)(u v:Value)(w:World):(Builtin.append_ #[T,T'] ty' #[u,v]).run P w=(Builtin.append_ #[T,T] ty' #[u,v]).run P w:=by
 rcases hT with rfl|⟨d',e',ab3,hk'⟩
 ·rfl
 obtain⟨desc,h1,h2⟩:=hok.u;rw[hk]at h2;cases desc<;>simp only[TK.ok]at h2;subst h2;obtain⟨desc',zw,ze⟩:=ab3.u;rw[hk']at ze;cases desc'<;>simp only[TK.ok]at ze;subst ze;cases u<;>simp[Builtin.append_,run_underlying h1,run_underlying zw,cL gN w]
theorem ia{T T' e:TypeId}{d ed:aU}(hok:d.ok P T)(hk:d.k=.sl e)(gN:ed.ok P e)(hT:SlT P T T'){x y:Operand}{v':Value}{w':World}(ho:o.op=.call ⟨.builtin .append,#[x,y],#[T,T']⟩)(h:(Builtin.append_ #[T,T] o.type #[a.eval x,a.eval y]).run P w=.ok v' w'):(execOp a.eval o).run P w=.ok (.value v') w':=by
 simp only[execOp,ho,resolve];rw[<-Gv hok hk gN hT]at h;simp[invoke,builtin,h]
theorem yO{T T' e:TypeId}{d ed:aU}(hok:d.ok P T)(hk:d.k=.sl e)(gN:ed.ok P e)(hT:SlT P T T'){x y:Operand}(ho:o.op=.call ⟨.builtin .append,#[x,y],#[T,T']⟩)
  {G:Gh} {lm:Nat->Option Nat} {H:GH} (g1:GP G H.next s.df a.defers) (g2:a.tmps.size=s.nt) (hM:MR G lm s.L H w) (hx:Ext E G H w) (aK:∀t,LR G H.next lm (s.env t) (a.tmps.getD t undef)) {n:Nat} {xs ys:List (List DV)}
  (hn:H.obj n=some (.arr e ed.sz xs.length)) (kW:LR G H.next lm (.lF n xs) (a.eval x)) {yv:LV} (hyv:LR G H.next lm yv (a.eval y)) (hy:rowsOf yv=some ys) (hxs:∀r∈xs,r.length=ed.sz) (hys:∀r∈ys,r.length=ed.sz) (hl:(xs.length+ys.length)*ed.bt<=140737488355328/\xs.length+ys.length<=140737488355328) (hsz:ed.sz≠0) (aN:∀t,o.dst=some t->t<s.nt):
  ∃v' w',(execOp a.eval o).run P w=.ok (.value v') w'/\cF E (({s with H:=H.set n (.arr e ed.sz (xs.length+ys.length))}:S).put o.dst (.lF n (xs++ys))) (a.put o.dst v') w':=by
 obtain⟨hlt,htip,Br,cells,hrow,hone,hblk⟩:=hM.iC n _ hn;unfold LR at kW;obtain⟨_,hDx,_,tq⟩:=kW;have tq:=tq htip.symm;obtain⟨B,cB,hyB⟩:=uz hyv hy;have aE2:=hDx;unfold DR at aE2;obtain⟨A,capx,szx,ex,hcx,GW,hux,hRx⟩:=aE2;by_cases h0:ys.length=0
 ·have bi9:ys=[]:=List.eq_nil_of_length_eq_zero h0;subst bi9;have hrun:=lH hok hk gN o.type A B xs.length capx cB hcx w;refine⟨a.eval x,w,ia hok hk gN hT ho (by rw[hyB,ex];exact hrun),?_⟩
  have hH:H.set n (.arr e ed.sz (xs.length+([]:List (List DV)).length))=H:=by
   unfold GH.set;congr 1;funext z;simp only[eL];split
   ·rename_i q;subst q;rw[hn];rfl
   ·rfl
  rw[hH,List.append_nil];exact cF.mk' (L':=s.L) (H':=H) g2 g1 hM hx aK (by unfold LR;exact⟨hlt,hDx,by omega,λ_=>tq⟩) aN
 ·have hDy:DR G.M (.sl ys) (a.eval y):=by
   rcases Fp hyv hy with⟨cap,_,rfl⟩|hD
   ·simp at h0
   ·exact hD
  unfold DR at hDy;obtain⟨A2,cap2,sz2,ey,hcy,_,huy,hRy⟩:=hDy;rcases hRy with rfl|⟨by_,oy,rfl,hRy⟩
  ·simp at h0
  obtain⟨news,n1,n2,n3⟩:=GA hys hRy;obtain⟨i,z,i1,i2,i3,i4,i5,i6⟩:=gN.i;obtain⟨desc,h1,h2⟩:=hok.u;rw[hk]at h2;cases desc<;>simp only[TK.ok]at h2;have ze:=h2.symm;subst ze;have hzs:z.cells.size=i.size:=by rw[<-Array.length_toList,i4,i2,gN.len]
  have YL:∀v∈cells++news,v.oneCell'=true:=λv hv=>by
   rcases List.mem_append.1 hv with hv|hv
   ·exact hone v hv
   ·obtain⟨j,hj⟩:=List.getElem?_of_mem hv;exact(n2 j v hj).2
  obtain⟨v',w',hrun,Jt,qE⟩:=vD (P:=P) (w:=w) T o.type e i z h1 i1 i3 hzs (by rw[i2];omega) (G.av n) xs.length cells (by rw[i2];exact hrow) ⟨by_,oy,none⟩ ys.length cap2 news (by rw[n1,i2])
   (λj u hu=>by rw[ef];exact hM.qC _ _ _ (n2 j u hu).1) (λu hu=>YL u (List.mem_append.2 (.inr hu))) (by simp only[maxLen];omega) (by
    rw[i6];exact hl.1) (by omega)
  rw[i2]at Jt;obtain⟨m1,m2,m3,m4,m5,b',m6,m7⟩:=hM.append n hn (show xs.length<xs.length+ys.length by omega) hrow Jt YL qE
  --the rows lie in the new row
  have lX:cells.length=xs.length*ed.sz:=hrow.1;have bp9:RR (iv G n v' (xs.length+ys.length) (cells++news)).M b' 0 xs:=by
   rcases hRx with rfl|⟨bx,ox,rfl,hRx⟩
   ·simp[RR]
   ·replace hux:=hxs
    obtain⟨vs,q1,q2,q3⟩:=GA hux hRx;refine q3 _ b' 0 m2.M λj u hu=>?_
    have hj:=(List.getElem?_eq_some_iff.1 hu).1;have hc:cells[j]?=some u:=by
     have kp:(G.av n).ownBlock=some bx:=by rw[<-tq,ex];rfl
     rcases hrow.2 with⟨q,_⟩|⟨g,cap,cur,q,_⟩
     ·rw[q]at kp;cases kp
     ·have:ox=0:=by rw[<-tq,ex]at q;simp at q;exact q.1.2
      have:=(hblk bx kp).2 (ox+j) u (q2 j u hu).1;simpa[‹ox=0›]using this
    rw[Nat.zero_add,m7 j (by simp;omega)]
    rw[List.getElem?_append_left (by omega)];exact hc
  have bp7:RR (iv G n v' (xs.length+ys.length) (cells++news)).M b' (0+(xs.map (·.length)).sum) ys:=by
   have Bs:(xs.map (·.length)).sum=cells.length:=by
    rw[lX];exact zZ hxs
   rw[Bs];refine n3 _ b' _ m2.M λj u hu=>?_
   have hj:=(List.getElem?_eq_some_iff.1 hu).1;rw[show 0+cells.length+j=cells.length+j from by omega,m7 _ (by simp;omega)]
   rw[List.getElem?_append_right (by omega)]
   rw[show cells.length+j-cells.length=j from by omega];exact hu
  have YT:=E0 bp9 bp7;have hform:∃cap,v'=.slice (some ⟨b',0,none⟩) (xs.length+ys.length) cap/\xs.length+ys.length<=cap/\cap<=maxLen:=by
   rcases Jt.2 with⟨q,q'⟩|⟨g,cap,cur,q,_,_,q5,q6,_⟩
   ·omega
   ·rw[q]at m6;simp[Value.ownBlock]at m6;subst m6;exact⟨cap,q,q5,q6⟩
  obtain⟨cap,hv',hc1,hc2⟩:=hform;have hx':Ext E (iv G n v' (xs.length+ys.length) (cells++news)) (H.set n (.arr e ed.sz (xs.length+ys.length))) w':=by
   refine Ext.trans hx ⟨m2,Nat.le_refl _,?_,?_,?_,?_,m5,λb hb ho=>?_,m3⟩
   ·rcases qE with⟨_,q⟩|⟨_,q⟩<;>exact q.os
   ·rcases qE with⟨_,q⟩|⟨_,q⟩<;>exact q.tape
   ·rcases qE with⟨_,q⟩|⟨_,q⟩<;>exact q.output
   ·rcases qE with⟨_,q⟩|⟨_,q⟩<;>exact q.drawn
   ·exact m4 b hb (by rcases ho with q|q<;>simp only at q<;>rw[q]<;>simp)
  refine⟨v',w',ia hok hk gN hT ho (by rw[tq,ey];exact hrun),?_⟩
  refine cF.mk' (L':=s.L) (H':=H.set n (.arr e ed.sz (xs.length+ys.length))) g2 (ct (Nat.le_refl _) m2 _ _ g1) m1 hx' (ic (Nat.le_refl _) m2 (λ_ _ e=>e) aK) ?_ aN
  unfold LR;refine⟨hlt,?_,by simp[iv],λ_=>by simp[iv]⟩
  unfold DR;refine⟨_,cap,ed.sz,by rw[hv',List.length_append],by rw[List.length_append];exact hc1,hc2,λr hr=>?_,.inr ⟨b',0,rfl,YT⟩⟩
  rcases List.mem_append.1 hr with hr|hr
  ·exact hxs r hr
  ·exact hys r hr
end
end Go.Aft
end
