import Derived.Test.YthinedikejlgmaaGreatA04
set_option linter.all false
namespace Go.Aft
section
variable {P:Program} {ty:TypeId->Option TyD} {pub:Nat->Kd} {E:Ent} {s:S} {a:Act} {w:World} {o:Oper} {r:Res}
theorem b7k {g:Nat} {cur:Array Value} {t:TypeId} (h:w.heap[g]?=some (.cells cur t (0,0))) (cs:Array Value):w.setRow g cs=setB w g (.cells cs t (0,0)):=by
 have hlt:=heap_lt h
 have hg:w.heap[g]=.cells cur t (0,0):=by rw [Array.getElem?_eq_getElem hlt] at h;exact Option.some.inj h
 unfold World.setRow setB
 congr 1
 apply Array.ext
 ·simp
 ·intro i h1 h2
  by_cases e:g=i
  ·subst e;simp [Array.getElem_modify,hg]
  ·simp only [Array.getElem_modify,e,if_false]
   rw [Array.getElem_setIfInBounds (by simpa using h1)];simp [e]
theorem a9p {G:Gh} {nx:Nat} {lm:Nat->Option Nat} {cs c:List LV} {vs u:List Value} (h:LRs G nx lm cs vs) (k:LRs G nx lm c u) (off:Nat) :
  LRs G nx lm (putAt cs off c) (vs.take off ++ u ++ vs.drop (off+u.length)):=by
 unfold putAt
 rw [a0u k]
 exact a2g (a2g (b1g h off) k) (a2u h _)
theorem b7h {T:TypeId} {d:TyD} (hok:d.ok P T) {b off:Nat} {vs:List Value} (hc:b0j w b vs) {v:Value} (hl:v.cells.size=d.sz) (hfit:off+d.sz<=vs.length) (h1:∀ u ∈ v.cells.toList,u.oneCell'=true) :
  ∃ t,w.heap[b]?=some (.cells vs.toArray t (0,0))/\(storeVar T ⟨b,off,none⟩ v).run P w=.ok () (setB w b (.cells (vs.take off ++ v.cells.toList ++ vs.drop (off+v.cells.toList.length)).toArray t (0,0))):=by
 have hl':v.cells.toList.length=d.sz:=by simpa using hl
 obtain ⟨t,hb,_⟩:=hc
 refine ⟨t,hb,?_⟩
 have:=run_storeCells_at P b off t v.cells.toList 0 vs.toArray w hb (by simp;omega) h1
 simp only [Nat.add_zero] at this
 rw [b7k hb] at this
 simp only [hl'] at this |-
 simp [storeVar,a1n hok w,hl]
 simpa using this
theorem b2z {cs c:List Value} (h:∀ v ∈ cs,v.oneCell'=true) (k:∀ v ∈ c,v.oneCell'=true) (off n:Nat):∀ v ∈ cs.take off ++ c ++ cs.drop n,v.oneCell'=true:=by
 intro v hv
 rcases List.mem_append.1 hv with hv | hv
 ·rcases List.mem_append.1 hv with hv | hv
  ·exact h v (List.mem_of_mem_take hv)
  ·exact k v hv
 ·exact h v (List.mem_of_mem_drop hv)
theorem b4z {T:TypeId} {p x:Operand} {ad:Addr} {w':World} (ho:o.op=.store T p x) (he:a.eval p=.pointer (some ad)) (h:(storeVar T ad (a.eval x)).run P w=.ok () w'):(execOp a.eval o).run P w=.ok .skip w':=by
 simp [execOp,ho,Instr.storeAt,Instr.sureAddr,he,h]
theorem d1w {T:TypeId} {d:TyD} {p x:Operand} {k off:Nat} {cs:List LV} (ho:o.op=.store T p x) (hok:d.ok P T) (hp:s.argP p) (hq:s.argP x) (ha:s.arg p=.lp k off) (hL:s.L k=some cs)
  (hlen:(s.arg x).cells.length=d.sz) (h1:(s.arg x).cells.all LV.one=true) (hfit:off+d.sz<=cs.length) (hs:Sim E s a w) (hdst:∀ t,o.dst=some t->t < s.nt) (pre:Prop) :
  OpOk P E s o a w ⟨pre,.any,.c1r k (putAt cs off (s.arg x).cells)⟩:=by
 obtain ⟨g2,G,lm,g1,hM,hx,henv,_⟩:=hs
 have hpv:=a0q henv p hp
 rw [ha] at hpv;unfold LR at hpv
 obtain ⟨b,hb,he⟩:=hpv
 obtain ⟨b',vs,q1,q2,q3,q4⟩:=hM.loc k cs hL
 have:b'=b:=by rw [q1] at hb;exact Option.some.inj hb
 subst this
 have hxv:=a6l (a0q henv x hq) h1
 have hxl:=a0u hxv
 have hx1:=a5c hxv h1
 obtain ⟨t,hbt,hrun⟩:=b7h hok q3 (v:=a.eval x) (off:=off) (by rw [<- Array.length_toList,hxl,hlen]) (by rw [a0u q4];exact hfit) hx1
 have hM':=hM.c1r k b' hb hL (putAt cs off (s.arg x).cells) _ t (b2z q3.choose_spec.2 hx1 off _) (a9p q4 hxv off)
 refine ⟨.skip,undef,_,b4z ho he hrun,.inr ⟨rfl,rfl⟩,?_⟩
 refine Sim.mk' (L':=upd s.L k (some (putAt cs off (s.arg x).cells))) (H':=s.H) g2 g1 hM' (Ext.setB hx (Gh.le_refl _ _) (Nat.le_refl _) (fun _=>rfl) (fun hx'=>?_) _) henv (by simp [LR]) hdst
 have:=hx.own _ hx'
 rw [q2] at this
 rcases this with q | ⟨_,q⟩
 ·rw [<- q];simp
 ·cases q
theorem d1x {T:TypeId} {d:TyD} {p x:Operand} {n off:Nat} {cs:List LV} (ho:o.op=.store T p x) (hok:d.ok P T) (hp:s.argP p) (hq:s.argP x) (ha:s.arg p=.gp n off) (hL:s.H.obj n=some (.box cs))
  (hlen:(s.arg x).cells.length=d.sz) (h1:(s.arg x).cells.all LV.one=true) (hfit:off+d.sz<=cs.length) (hnb:nbs s.H.next (s.arg x).cells) (hs:Sim E s a w) (hdst:∀ t,o.dst=some t->t < s.nt) (pre:Prop) :
  OpOk P E s o a w ⟨pre,.any,.a3b n (.box (putAt cs off (s.arg x).cells))⟩:=by
 obtain ⟨g2,G,lm,g1,hM,hx,henv,_⟩:=hs
 have hpv:=a0q henv p hp
 rw [ha] at hpv;unfold LR at hpv
 obtain ⟨_,he⟩:=hpv
 obtain ⟨hlt,q2,vs,q3,q4⟩:=hM.nmd n _ hL
 have hxv:=a6l (a0q henv x hq) h1
 have hxl:=a0u hxv
 have hx1:=a5c hxv h1
 obtain ⟨t,hbt,hrun⟩:=b7h hok q3 (v:=a.eval x) (off:=off) (by rw [<- Array.length_toList,hxl,hlen]) (by rw [a0u q4];exact hfit) hx1
 have hblt:=b1e q3
 have hM':=hM.a3b n hL (.box (putAt cs off (s.arg x).cells)) _ q2 (by simp) (by simp)
  ⟨q2,_,⟨t,by rw [a2j,if_pos ⟨rfl,hblt⟩],b2z q3.choose_spec.2 hx1 off _⟩,a9p q4 (a2a _ _ hxv hnb) off⟩
 refine ⟨.skip,undef,_,b4z ho he hrun,.inr ⟨rfl,rfl⟩,?_⟩
 exact Sim.mk' (L':=s.L) (H':=s.H.set n (.box (putAt cs off (s.arg x).cells))) g2 g1 hM' (hx.a3b hM n _ _ q2) henv (by simp [LR]) hdst
theorem d1v {T e:TypeId} {d:TyD} {p x:Operand} {n g off sz:Nat} {cs:List LV} {ex:Bool} (ho:o.op=.store T p x) (hok:d.ok P T) (hp:s.argP p) (hq:s.argP x) (ha:s.arg p=.vp n g off) (hL:s.H.obj n=some (.vec e g sz cs ex))
  (hlen:(s.arg x).cells.length=d.sz) (h1:(s.arg x).cells.all LV.one=true) (hfit:off+d.sz<=cs.length) (hnb:nbs s.H.next (s.arg x).cells) (hs:Sim E s a w) (hdst:∀ t,o.dst=some t->t < s.nt) (pre:Prop) :
  OpOk P E s o a w ⟨pre,.any,.a3b n (.vec e g sz (putAt cs off (s.arg x).cells) ex)⟩:=by
 obtain ⟨g2,G,lm,g1,hM,hx,henv,_⟩:=hs
 have hpv:=a0q henv p hp
 rw [ha] at hpv;unfold LR at hpv
 obtain ⟨_,_,b,o',he,h2⟩:=hpv
 obtain ⟨hlt,htip,hsz,b',C,vs,rest,q1,q0,qo,q2,q5,q3,q4,q6,q7⟩:=c4c hM hL
 obtain ⟨rfl,sz',C',h3⟩:=h2 htip.symm
 rw [q1] at h3;cases h3
 have hcl:=a0u q3
 have hxv:=a6l (a0q henv x hq) h1
 have hxl:=a0u hxv
 have hx1:=a5c hxv h1
 obtain ⟨t,hbt,hrun⟩:=b7h hok (vs:=vs ++ rest) ⟨e,q2,q5⟩ (v:=a.eval x) (off:=o') (by rw [<- Array.length_toList,hxl,hlen]) (by simp only [List.length_append];omega) hx1
 have hte:t=e:=by rw [q2] at hbt;cases hbt;rfl
 subst hte
 have hblt:=heap_lt q2
 have hxlen:(a.eval x).cells.toList.length=d.sz:=by rw [hxl,hlen]
 have hcat:(vs ++ rest).take o' ++ (a.eval x).cells.toList ++ (vs ++ rest).drop (o' + (a.eval x).cells.toList.length)=(vs.take o' ++ (a.eval x).cells.toList ++ vs.drop (o' + (a.eval x).cells.toList.length)) ++ rest:=by
  rw [List.take_append_of_le_length (by omega),List.drop_append_of_le_length (by omega)]
  simp only [List.append_assoc]
 rw [hcat] at hrun
 have hlen2:(vs.take o' ++ (a.eval x).cells.toList ++ vs.drop (o' + (a.eval x).cells.toList.length)).length=vs.length:=by
  simp only [List.length_append,List.length_take,List.length_drop];omega
 have hM':=hM.b4f n b hL (.vec t g sz (putAt cs o' (s.arg x).cells) ex) _ qo (by simp) (by simp)
  ⟨htip,hsz,b,C,_,rest,q1,q0,qo,by rw [a2j,if_pos ⟨rfl,hblt⟩],fun v hv=>by
   rcases List.mem_append.1 hv with hv | hv
   ·exact b2z (fun v hv=>q5 v (List.mem_append_left _ hv)) hx1 _ _ v hv
   ·exact q5 v (List.mem_append_right _ hv),a9p q3 (a2a _ _ hxv hnb) o',by rw [List.length_append,hlen2,<- List.length_append];exact q4,q6,by
   have:(putAt cs o' (s.arg x).cells).length=cs.length:=by simp only [putAt,List.length_append,List.length_take,List.length_drop];omega
   rw [this];exact q7⟩
 refine ⟨.skip,undef,_,b4z ho he hrun,.inr ⟨rfl,rfl⟩,?_⟩
 exact Sim.mk' (L':=s.L) (H':=s.H.set n (.vec t g sz (putAt cs o' (s.arg x).cells) ex)) g2 g1 hM' (hx.b4f n b _ _ qo) henv (by simp [LR]) hdst
theorem d1y {x:Operand} (ho:o.op=.nilCheck x) (hk:e3e (s.arg x)=true) (hp:s.argP x) (hs:Sim E s a w) (hdst:∀ t,o.dst=some t->t < s.nt) (pre:Prop):OpOk P E s o a w ⟨pre,s.arg x,.no⟩ :=
 OpOk.pure hs hdst fun G lm _ henv=>by
  have h:=a0q henv x hp
  refine ⟨a.eval x,?_,h⟩
  cases hx:s.arg x with
  | lp k off=>rw [hx] at h;unfold LR at h;obtain ⟨b,_,e⟩:=h;simp [execOp,ho,e]
  | gp k off=>rw [hx] at h;unfold LR at h;obtain ⟨_,e⟩:=h;simp [execOp,ho,e]
  | ep xs es i off=>rw [hx] at h;unfold LR at h;obtain ⟨b,o',e,_⟩:=h;simp [execOp,ho,e]
  | ip cs off=>rw [hx] at h;unfold LR at h;obtain ⟨b,e,_⟩:=h;simp [execOp,ho,e]
  | vp n g off=>rw [hx] at h;unfold LR at h;obtain ⟨_,_,b,o',e,_⟩:=h;simp [execOp,ho,e]
  | fn f fs cs =>
   rw [hx] at h hk;unfold LR at h;obtain ⟨_,_,e,_⟩:=h
   cases f <;> simp [e3e] at hk
   simp [execOp,ho,e]
  | _=>rw [hx] at hk;simp [e3e] at hk
theorem d5h {G:Gh} {nx:Nat} {lm:Nat->Option Nat} {x y:LV} {v:Value} (h:LR G nx lm x v) {n:Nat} (hy:x.shift n=some y):∃ ad,v=.pointer (some ad)/\LR G nx lm y (.pointer (some (ad.add n))):=by
 cases x <;> simp [LV.shift] at hy <;> subst hy <;> unfold LR at h |-
 ·obtain ⟨b,h1,rfl⟩:=h;exact ⟨_,rfl,b,h1,by rw [addr_add]⟩
 ·obtain ⟨h1,rfl⟩:=h;exact ⟨_,rfl,h1,by rw [addr_add]⟩
 ·obtain ⟨b,o',rfl,h1,h2,h3⟩:=h;exact ⟨_,rfl,b,o',by rw [addr_add,Nat.add_assoc],h1,h2,h3⟩
 ·obtain ⟨h1,h2,b,o',rfl,h3⟩:=h;exact ⟨_,rfl,h1,h2,b,o' + n,by rw [addr_add],fun e=>by obtain ⟨rfl,q⟩:=h3 e;exact ⟨rfl,q⟩⟩
 ·obtain ⟨b,rfl,h1⟩:=h;exact ⟨_,rfl,b,by rw [addr_add],h1⟩
theorem c7u {T t:TypeId} {fs:List (Nat × TypeId)} {d fd:TyD} {x:Operand} {f off:Nat} {v:LV} (ho:o.op=.fieldAddr T x f) (hok:d.ok P T) (hk:d.k=.agg fs) (hf:fs[f]?=some (off,t)) (hfd:fd.ok P t) (hz:fd.sz ≠ 0)
  (hv:(s.arg x).shift off=some v) (hp:s.argP x) (hs:Sim E s a w) (hdst:∀ t,o.dst=some t->t < s.nt) (pre:Prop):OpOk P E s o a w ⟨pre,v,.no⟩ :=
 OpOk.pure hs hdst fun G lm _ henv=>by
  obtain ⟨ad,e,h⟩:=d5h (a0q henv x hp) hv
  obtain ⟨desc,h1,h2⟩:=hok.u
  rw [hk] at h2
  cases desc <;> simp [TK.ok] at h2
  rename_i flds
  subst h2
  obtain ⟨fld,h3,h4⟩:∃ fld,flds[f]?=some fld/\(fld.offset,fld.type)=(off,t):=by
   simp only [List.getElem?_map,Array.getElem?_toList] at hf
   cases hq:flds[f]? with
   | none=>rw [hq] at hf;cases hf
   | some fld=>rw [hq] at hf;exact ⟨fld,rfl,Option.some.inj hf⟩
  cases h4
  exact ⟨_,by simp [execOp,ho,Instr.fieldAt,run_underlying h1,h3,e,Instr.sureAddr,fieldPlace,a1n hfd w,hz],h⟩
theorem e1h {op:BinOp} {k:IntKind} {x y:Int} {c:Prop × Value} (h:d7p op k x y=some c) (hc:c.1) (T:TypeId) (w:World):(binOp op T (.int k x) (.int k y)).run P w=.ok c.2 w/\c.2.oneCell'=true:=by
 cases op <;> simp only [d7p,Option.some.injEq,reduceCtorEq] at h <;> subst h
 all_goals refine ⟨?_,rfl⟩
 all_goals first
  | (simp [binOp,Op.intArith];done)
  | (simp [binOp,Op.intCmp];done)
  | (simp only at hc;simp [binOp,Op.intDiv,hc];done)
  | (simp only at hc;simp [binOp,Op.shift,shrI,show ¬ y < 0 by omega];done)
theorem c1o (x y:ByteArray):(x.toList == y.toList)=decide (x=y):=by
 rw [ByteArray.toList_eq,ByteArray.toList_eq,Bool.eq_iff_iff,beq_iff_eq,decide_eq_true_iff]
 constructor
 ·intro h;exact ByteArray.ext (Array.toList_inj.1 h)
 ·intro h;rw [h]
theorem e1g {op:BinOp} {x y:ByteArray} {c:Prop × Value} (h:d7o op x y=some c) (hc:c.1) (T:TypeId) (w:World):(binOp op T (.string x) (.string y)).run P w=.ok c.2 w/\c.2.oneCell'=true:=by
 cases op <;> simp only [d7o,Option.some.injEq,reduceCtorEq] at h <;> subst h
 ·simp only at hc
  have:¬ (IntKind.i64.max < (x.size:Int)+y.size):=by show ¬ ((9223372036854775807:Int) < _);omega
  exact ⟨by simp [binOp,Op.stringOp,this];omega,rfl⟩
 ·exact ⟨by simp [binOp,Op.stringOp,c1o],rfl⟩
 ·exact ⟨by simp [binOp,Op.stringOp,c1o],rfl⟩
theorem e5h (op:BinOp) (T:TypeId) (x y:Operand) {u v:Value} (hu:u.oneCell'=true) (hn:u ≠ .nilIface) (w:World):(eqGuard op T x y u v).run P w=.ok () w:=by
 unfold eqGuard
 cases op <;> simp
 all_goals cases u <;> simp_all [Value.oneCell']
theorem f0d {op:BinOp} {x y:Bool} {r:Value} (h:(match op with | .eql=>some (.bool (x == y)) | .neq=>some (.bool (!(x == y))) | _=>none:Option Value)=some r) {T:TypeId} {d:TyD} (hok:d.ok P T) (hd:d.k=.bool) (w:World) :
  (binOp op T (.bool x) (.bool y)).run P w=.ok r w/\r.oneCell'=true:=by
 obtain ⟨desc,h1,h2⟩:=hok.u
 rw [hd] at h2
 cases desc <;> simp [TK.ok] at h2
 cases op <;> simp only [Option.some.injEq,reduceCtorEq] at h <;> subst h
 ·exact ⟨run_eql_bool w T x y h1,rfl⟩
 ·exact ⟨run_neq_bool w T x y h1,rfl⟩
def EqOk (P:Program) (eqt:TypeId->Option (List Sc)):Prop:=∀ T ks,eqt T=some ks->∀ (xs ys:List Value) (w:World),hasAll ks xs=true->hasAll ks ys=true ->
 (Op.equalIn 10000 T (.agg xs.toArray) (.agg ys.toArray)).run P w=.ok (allEq xs ys) w/\∀ x y,(eqGuard .eql T x y (.agg xs.toArray) (.agg ys.toArray)).run P w=.ok () w/\(eqGuard .neq T x y (.agg xs.toArray) (.agg ys.toArray)).run P w=.ok () w
def c6j (P:Program) (eqt:TypeId->Option (List Sc)):Prop:=∀ T ks,eqt T=some ks->∀ (xs:List Value) (w:World) (b:Bool),hasAll ks xs=true->(Instr.checkKey b 10000 T (.agg xs.toArray)).run P w=.ok () w
theorem a7t {G:Gh} {nx:Nat} {lm:Nat->Option Nat}:∀ {cs:List LV} {vs us:List Value},a4g cs=some vs->LRs G nx lm cs us->us=vs
 | [],vs,us,h,hR=>by simp [a4g] at h;unfold LRs at hR;rw [hR,h]
 | c :: cs,vs,us,h,hR=>by
  unfold a4g at h
  split at h
  ·rename_i e;cases e
  ·rename_i v cs' e
   cases e
   unfold LRs at hR
   obtain ⟨u,r,rfl,h1,h2⟩:=hR
   cases hc:a4g cs with
   | none=>rw [hc] at h;cases h
   | some vs' =>
    rw [hc] at h;simp at h;subst h
    unfold LR DR at h1
    rw [h1.1,a7t hc h2]
  ·cases h
theorem f5c {eqt:TypeId->Option (List Sc)} {op:BinOp} {T yT:TypeId} {x y:Operand} {c:Prop × Value} (hty:TyOk P ty) (heq:EqOk P eqt) (ho:o.op=.binOp op T x y yT) (hv:binV (((ty T).map (·.k.isBool)).getD false) (eqt T) op (s.arg x) (s.arg y)=some c) (hc:c.1) (hp:s.argP x) (hq:s.argP y)
  (hs:Sim E s a w) (hdst:∀ t,o.dst=some t->t < s.nt) (pre:Prop):OpOk P E s o a w ⟨pre,kz c.2,.no⟩ :=
 OpOk.pure hs hdst fun G lm _ henv=>by
  have h1:=a0q henv x hp
  have h2:=a0q henv y hq
  have key:∀ u v:Value,u.oneCell'=true->u ≠ .nilIface->a.eval x=u->a.eval y=v->((binOp op T u v).run P w=.ok c.2 w/\c.2.oneCell'=true)->∃ v',(execOp a.eval o).run P w=.ok (.value v') w/\LR G s.H.next lm (kz c.2) v':=by
   intro u v g1 g2 e1 e2 ⟨g3,g4⟩
   have hg:=e5h (P:=P) op T x y (v:=v) g1 g2 w
   exact ⟨c.2,by simp [execOp,ho,e1,e2,hg,g3],c8p g4⟩
  unfold binV at hv
  split at hv
  ·rename_i cs ds e1 e2
   rw [e1] at h1;rw [e2] at h2
   unfold LR at h1 h2
   obtain ⟨vs,e3,h1⟩:=h1
   obtain ⟨us,e4,h2⟩:=h2
   cases hk:eqt T with
   | none=>rw [hk] at hv;cases op <;> cases hv
   | some ks =>
    rw [hk] at hv
    have aux:∀ r,e5j ks cs ds=some r->(Op.equalIn 10000 T (.agg vs.toArray) (.agg us.toArray)).run P w=.ok r w/\∀ x y,(eqGuard .eql T x y (.agg vs.toArray) (.agg us.toArray)).run P w=.ok () w/\(eqGuard .neq T x y (.agg vs.toArray) (.agg us.toArray)).run P w=.ok () w:=by
     intro r hr
     unfold e5j at hr
     split at hr
     ·rename_i vs' us' q1 q2
      split at hr
      ·rename_i hh
       simp only [Bool.and_eq_true] at hh
       rw [a7t q1 h1,a7t q2 h2]
       cases hr
       exact heq T ks hk vs' us' w hh.1 hh.2
      ·cases hr
     ·cases hr
    cases op <;> simp only [Option.bind_some,Option.map_eq_some_iff,reduceCtorEq] at hv
    ·obtain ⟨r,hr,rfl⟩:=hv
     obtain ⟨q1,q2⟩:=aux r hr
     refine ⟨.bool r,?_,c8p rfl⟩
     simp only [execOp,ho]
     rw [e3,e4]
     simp [(q2 x y).1,run_eql_struct,q1]
    ·obtain ⟨r,hr,rfl⟩:=hv
     obtain ⟨q1,q2⟩:=aux r hr
     refine ⟨.bool (!r),?_,c8p rfl⟩
     simp only [execOp,ho]
     rw [e3,e4]
     simp [(q2 x y).2,run_neq_struct,q1]
  ·rename_i j m k n e1 e2
   rw [e1] at h1;rw [e2] at h2
   unfold LR DR at h1 h2
   split at hv
   ·rename_i ejk;subst ejk
    exact key _ _ rfl (by simp) h1.1 h2.1 (e1h hv hc T w)
   ·cases hv
  ·rename_i m n e1 e2
   rw [e1] at h1;rw [e2] at h2
   unfold LR DR at h1 h2
   exact key _ _ rfl (by simp) h1.1 h2.1 (e1g hv hc T w)
  ·rename_i m n e1 e2
   split at hv
   ·rename_i htb
    cases hT:ty T with
    | none=>rw [hT] at htb;cases htb
    | some d =>
     rw [hT] at htb
     have hd:d.k=.bool:=by simp at htb;cases hk:d.k <;> rw [hk] at htb <;> simp [TK.isBool] at htb |-
     rw [e1] at h1;rw [e2] at h2
     unfold LR DR at h1 h2
     refine key _ _ rfl (by simp) h1.1 h2.1 (f0d ?_ (hty T d hT) hd w)
     cases op <;> simp at hv |- <;> rw [<- hv]
   ·cases hv
  ·cases hv
theorem f6e {op:UnOp} {T:TypeId} {x:Operand} {c:Value} (ho:o.op=.unOp op T x) (hv:unV op (s.arg x)=some c) (hp:s.argP x)
  (hs:Sim E s a w) (hdst:∀ t,o.dst=some t->t < s.nt) (pre:Prop):OpOk P E s o a w ⟨pre,kz c,.no⟩ :=
 OpOk.pure hs hdst fun G lm _ henv=>by
  have h1:=a0q henv x hp
  unfold unV at hv
  split at hv
  ·rename_i b e
   rw [e] at h1;unfold LR DR at h1;cases hv
   exact ⟨_,by simp [execOp,ho,h1.1,Op.unary],c8p rfl⟩
  ·rename_i k n e
   rw [e] at h1;unfold LR DR at h1;cases hv
   exact ⟨_,by simp [execOp,ho,h1.1,Op.unary,Op.intArith],c8p rfl⟩
  ·cases hv
theorem e7z {d:TyD} {T:TypeId} (hok:d.ok P T) {off:Nat} {vs:List Value} {cs:List LV} {v:LV} {G:Gh} {nx:Nat} {lm:Nat->Option Nat}
  (hR:LRs G nx lm cs vs) (h:a2d d (cs.drop off)=some v):∃ v',(part T vs.toArray off).run P w=.ok v' w/\LR G nx lm v v':=by
 have hR':=a2u hR off
 unfold a2d at h
 by_cases ha:d.k.isAgg=true
 ·rw [if_pos ha] at h
  split at h
  ·rename_i hl
   cases h
   refine ⟨.agg ((vs.drop off).take d.sz).toArray,?_,?_⟩
   ·simp [part,b3h hok w,ha,a1n hok w]
   ·unfold LR;exact ⟨_,rfl,b1g hR' d.sz⟩
  ·cases h
 ·rw [if_neg ha] at h
  have h0:(cs.drop off)[0]?=some v:=by rw [<- List.head?_eq_getElem?];exact h
  obtain ⟨u,h1,h2⟩:=a6y hR' 0 v h0
  have hf:d.k.isAgg=false:=by simpa using ha
  have h1':vs[off]?=some u:=by simpa using h1
  refine ⟨u,?_,h2⟩
  simp [part,b3h hok w,hf,h1']
theorem d6x {fs:List (Nat × TypeId)} {flds:Array Field} (h:flds.toList.map (fun f=>(f.offset,f.type))=fs) {f off:Nat} {t:TypeId} (hf:fs[f]?=some (off,t)):∃ fld,flds[f]?=some fld/\fld.offset=off/\fld.type=t:=by
 subst h
 simp only [List.getElem?_map,Array.getElem?_toList] at hf
 cases hq:flds[f]? with
 | none=>rw [hq] at hf;cases hf
 | some fld=>rw [hq] at hf;simp at hf;exact ⟨fld,rfl,hf.1,hf.2⟩
theorem e8g {T t:TypeId} {fs:List (Nat × TypeId)} {d fd:TyD} {x:Operand} {f off:Nat} {cs:List LV} {v:LV} (ho:o.op=.field T x f) (hok:d.ok P T) (hk:d.k=.agg fs) (hf:fs[f]?=some (off,t)) (hfd:fd.ok P t)
  (ha:s.arg x=.agg cs) (hv:a2d fd (cs.drop off)=some v) (hp:s.argP x) (hs:Sim E s a w) (hdst:∀ t,o.dst=some t->t < s.nt) (pre:Prop):OpOk P E s o a w ⟨pre,v,.no⟩ :=
 OpOk.pure hs hdst fun G lm _ henv=>by
  have h:=a0q henv x hp
  rw [ha] at h;unfold LR at h
  obtain ⟨vs,e,hR⟩:=h
  obtain ⟨desc,h1,h2⟩:=hok.u
  rw [hk] at h2
  cases desc <;> simp only [TK.ok] at h2
  rename_i flds
  obtain ⟨fld,h3,h4,h5⟩:=d6x h2 hf
  subst h4;subst h5
  obtain ⟨v',q1,q2⟩:=e7z (w:=w) hfd hR hv
  exact ⟨v',by simp [execOp,ho,Instr.field,run_underlying h1,h3,e,asAgg,q1],q2⟩
theorem d1i {G:Gh} {nx:Nat} {lm:Nat->Option Nat} {x:LV} {v:Value} {xs:List (List DV)} (h:LR G nx lm x v) (hx:rowsOf x=some xs):(∃ cap,v=.slice none 0 cap/\xs=[]) \/ DR G.M (.sl xs) v:=by
 unfold rowsOf at hx
 split at hx
 ·cases hx;exact .inr (by simpa [LR] using h)
 ·cases hx;exact .inr (by unfold LR at h;exact h.2.1)
 ·cases hx;unfold LR DR at h;exact .inl ⟨0,h.1,rfl⟩
 ·cases hx
theorem d9u {T e:TypeId} {d ed:TyD} {x i:Operand} {k:IntKind} {n:Int} {xs:List (List DV)} (ho:o.op=.indexAddr T x i) (hok:d.ok P T) (hk:d.k=.sl e) (hed:ed.ok P e) (hi:s.arg i=.d (.k (.int k n))) (hx:rowsOf (s.arg x)=some xs)
  (h0:0<=n) (h1:n < xs.length) (h2:(xs.getD n.toNat []).length=ed.sz) (hp:s.argP x) (hq:s.argP i) (hs:Sim E s a w) (hdst:∀ t,o.dst=some t->t < s.nt) (pre:Prop):OpOk P E s o a w ⟨pre,.ep xs ed.sz n.toNat 0,.no⟩ :=
 OpOk.pure hs hdst fun G lm _ henv=>by
  have hi':=a0q henv i hq
  rw [hi] at hi';unfold LR DR at hi'
  obtain ⟨desc,g1,g2⟩:=hok.u
  rw [hk] at g2
  cases desc <;> simp only [TK.ok] at g2
  subst g2
  rcases d1i (a0q henv x hp) hx with ⟨cap,_,rfl⟩ | hD
  ·simp at h1;omega
  ·unfold DR at hD
   obtain ⟨ad,cap,sz,e1,e2,e3,e4,e5⟩:=hD
   rcases e5 with rfl | ⟨b,off,rfl,hR⟩
   ·simp at h1;omega
   ·have hlt:n.toNat < xs.length:=by omega
    have hsz:sz=ed.sz:=by
     have hxi:xs[n.toNat]?=some (xs.getD n.toNat []):=by simp [List.getD,List.getElem?_eq_getElem hlt]
     rw [<- h2];exact (e4 _ (List.mem_of_getElem? hxi)).symm
    subst hsz
    refine ⟨.pointer (some ⟨b,off+n.toNat * ed.sz,none⟩),?_,?_⟩
    ·simp [execOp,ho,Instr.indexAt,hi'.1,asIntOf,run_underlying g1,e1,h0,h1,a1n hed w,addr_add]
    ·unfold LR;exact ⟨b,off,rfl,hlt,e4,hR⟩
theorem d9t {T e:TypeId} {d ed:TyD} {x i:Operand} {k:IntKind} {n:Int} {m g sz j len:Nat} (ho:o.op=.indexAddr T x i) (hok:d.ok P T) (hk:d.k=.sl e) (hed:ed.ok P e) (hi:s.arg i=.d (.k (.int k n))) (hx:s.arg x=.vs m g sz j len) (hsz:ed.sz=sz)
  (h0:0<=n) (h1:n < len) (hp:s.argP x) (hq:s.argP i) (hs:Sim E s a w) (hdst:∀ t,o.dst=some t->t < s.nt) (pre:Prop):OpOk P E s o a w ⟨pre,.vp m g ((j+n.toNat) * sz),.no⟩ :=
 OpOk.pure hs hdst fun G lm _ henv=>by
  have hi':=a0q henv i hq
  rw [hi] at hi';unfold LR DR at hi'
  obtain ⟨desc,g1,g2⟩:=hok.u
  rw [hk] at g2
  cases desc <;> simp only [TK.ok] at g2
  subst g2;subst hsz
  have hx':=a0q henv x hp
  rw [hx] at hx';unfold LR at hx'
  obtain ⟨q1,q2,b,o',cap,q3,q4,q5,q6⟩:=hx'
  refine ⟨.pointer (some ⟨b,o' + n.toNat * ed.sz,none⟩),?_,?_⟩
  ·simp [execOp,ho,Instr.indexAt,hi'.1,asIntOf,run_underlying g1,q3,h0,h1,a1n hed w,addr_add]
  ·unfold LR;refine ⟨q1,q2,b,_,rfl,fun e=>?_⟩
   obtain ⟨C,r1,r2,r3⟩:=q6 e
   refine ⟨?_,ed.sz,C,r1⟩
   rw [r3 (by omega),Nat.add_mul]
theorem d2a {T e:TypeId} {d ed:TyD} {x i:Operand} {k:IntKind} {n:Int} {len:Nat} {v:LV} (ho:o.op=.indexAddr T x i) (hok:d.ok P T) (hk:d.k=.arr len e) (hed:ed.ok P e) (hi:s.arg i=.d (.k (.int k n))) (hx:(s.arg x).shift (n.toNat * ed.sz)=some v)
  (h0:0<=n) (h1:n < len) (hp:s.argP x) (hq:s.argP i) (hs:Sim E s a w) (hdst:∀ t,o.dst=some t->t < s.nt) (pre:Prop):OpOk P E s o a w ⟨pre,v,.no⟩ :=
 OpOk.pure hs hdst fun G lm _ henv=>by
  have hi':=a0q henv i hq
  rw [hi] at hi';unfold LR DR at hi'
  obtain ⟨desc,g1,g2⟩:=hok.u
  rw [hk] at g2
  cases desc <;> simp only [TK.ok] at g2
  obtain ⟨rfl,rfl⟩:=g2
  obtain ⟨ad,e1,e2⟩:=d5h (a0q henv x hp) hx
  exact ⟨_,by simp [execOp,ho,Instr.indexAt,hi'.1,asIntOf,run_underlying g1,e1,h0,h1,a1n hed w,Instr.sureAddr],e2⟩
theorem d9v {x:Operand} {i:Nat} {vs:List LV} {v:LV} (ho:o.op=.extract x i) (ha:s.arg x=.tup vs) (hv:vs[i]?=some v) (hp:s.argP x) (hs:Sim E s a w) (hdst:∀ t,o.dst=some t->t < s.nt) (pre:Prop):OpOk P E s o a w ⟨pre,v,.no⟩ :=
 OpOk.pure hs hdst fun G lm _ henv=>by
  have h:=a0q henv x hp
  rw [ha] at h;unfold LR at h
  obtain ⟨us,e,hR⟩:=h
  obtain ⟨u,h1,h2⟩:=a6y hR i v hv
  exact ⟨u,by simp [execOp,ho,Instr.extract,e,h1],h2⟩
theorem d3h {G:Gh} {lm:Nat->Option Nat} {nx:Nat} (h:∀ t,LR G nx lm (s.env t) (a.tmps.getD t undef)):∀ l:List Operand,LRs G nx lm (l.map s.get) (l.map a.eval)
 | []=>by simp [LRs]
 | o :: l=>by simp only [List.map_cons];unfold LRs;exact ⟨_,_,rfl,e4k h o,d3h h l⟩
theorem b2d {fn:Fn} {first cap:Array Operand} (ho:o.op=.makeFunc fn first cap) (hs:Sim E s a w) (hdst:∀ t,o.dst=some t->t < s.nt) (pre:Prop) :
  OpOk P E s o a w ⟨pre,.fn fn (first.toList.map s.get) (cap.toList.map s.get),.no⟩ :=
 OpOk.pure hs hdst fun G lm _ henv=>⟨.func fn (first.map a.eval) (cap.map a.eval),by simp [execOp,ho,Instr.makeFunc],by
  unfold LR;exact ⟨first.toList.map a.eval,cap.toList.map a.eval,by congr 1 <;> (apply Array.ext';simp),d3h henv _,d3h henv _⟩⟩
theorem d9n {T:TypeId} (ho:o.op=.makeMap T none) (hs:Sim E s a w) (hdst:∀ t,o.dst=some t->t < s.nt) (pre:Prop):OpOk P E s o a w ⟨pre,.gm s.H.next,.newNm (.map [])⟩:=by
 obtain ⟨h2,G,lm,h1,h3,h4,h5,_⟩:=hs
 have hle:=b8m (G:=G) s.H.next w.heap.size
 have hM:=h3.c0h (.map []) (.map #[] 0) (by simp) (by
  refine ⟨by simp [nmG],[],0,by simp only [nmG,upd_same];rw [a1t,if_pos rfl],?_⟩
  exact ⟨rfl,by simp [LRs],by simp,by simp⟩)
 refine ⟨.value (.map (some w.heap.size)),.map (some w.heap.size),w.alloc (.map #[] 0),?_,.inl rfl,?_⟩
 ·simp [execOp,ho,Instr.makeMap]
 ·refine Sim.mk' (L':=s.L) (H':=s.H.add (.map [])) h2 (a1g (Nat.le_succ _) hle _ _ h1) hM (h4.c0h h3 _ _) (a4t (Nat.le_succ _) hle (fun _ _ e=>e) h5) ?_ hdst
  unfold LR;exact ⟨Nat.lt_succ_self _,by simp [nmG]⟩
end
end Go.Aft
