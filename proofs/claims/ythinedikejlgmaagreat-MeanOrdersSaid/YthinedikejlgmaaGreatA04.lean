import Derived.Test.YthinedikejlgmaaGreatA03
set_option linter.all false
section
namespace Go.Aft
section
variable {P:Program} {ty:TypeId->Option TyD} {pub:Nat->Kd} {E:Ent} {s:S} {a:Act} {w:World} {o:Oper} {r:Res}
theorem a4t {G G':Gh} {nx nx':Nat} {lm lm':Nat->Option Nat} (hn:nx<=nx') (hle:G.le nx G') (hl:∀ k b,lm k=some b->lm' k=some b) (h:∀ t,LR G nx lm (s.env t) (a.tmps.getD t undef)) :
  ∀ t,LR G' nx' lm' (s.env t) (a.tmps.getD t undef):=fun t=>a0v hn hle hl _ _ (h t)
theorem e2y {x:Operand} (ho:o.op=.move x \/ o.op=.assign x) (hs:Sim E s a w) (hdst:∀ t,o.dst=some t->t < s.nt) (hp:s.argP x):OpOk P E s o a w ⟨s.argP x,s.arg x,.no⟩ :=
 OpOk.pure hs hdst fun G lm _ henv=>⟨a.eval x,by rcases ho with h | h <;> simp [execOp,h],a0q henv x hp⟩
theorem c7s {x:LV} {T:TypeId} {t:Nat} {cs:List LV} (hd:o.dst=some t) (ht:t < s.nt) (hs:Sim E s a w) (pre:Prop)
  (h:∀ G lm,MR G lm s.L s.H w->(∀ t,LR G s.H.next lm (s.env t) (a.tmps.getD t undef))->∃ vs:List Value,(execOp a.eval o).run P w=.ok (.value (.pointer (some ⟨w.heap.size,0,none⟩))) (w.alloc (.cells vs.toArray T (0,0))) /\
   LRs G s.H.next lm cs vs/\∀ v ∈ vs,v.oneCell'=true) :
  (s.L t=none->OpOk P E s o a w ⟨pre,.lp t 0,.newLoc cs⟩)/\(nbs s.H.next cs->OpOk P E s o a w ⟨pre,.gp s.H.next 0,.newNm (.box cs)⟩):=by
 obtain ⟨h2,G,lm,h1,h3,h4,h5,_⟩:=hs
 obtain ⟨vs,hr,hR,h1c⟩:=h G lm h3 h5
 constructor
 ·intro hL
  have hM:=h3.f0h t hL cs vs T h1c hR
  have hlm:∀ j b,lm j=some b->upd lm t (some w.heap.size) j=some b:=fun j b hj=>by
   have:j ≠ t:=fun e=>by rw [e,h3.lmL t hL] at hj;cases hj
   rw [upd_ne _ _ this];exact hj
  have hle:=e3u (G:=G) s.H.next w.heap.size (.loc t)
  refine ⟨_,_,_,hr,.inl rfl,?_⟩
  simp only [S.eff,hd]
  have hown:∀ b,b < w.heap.size->(locG G w.heap.size (.loc t)).own b=G.own b:=fun b hb=>by
   have:b ≠ w.heap.size:=by omega
   simp [locG,this]
  refine Sim.mk' (L':=upd s.L t (some cs)) (H':=s.H) h2 (a1g (Nat.le_refl _) hle _ _ h1) hM (h4.alloc hle (Nat.le_refl _) hown _) (a4t (Nat.le_refl _) hle hlm h5) ?_ (fun u hu=>by cases hu;exact ht)
  unfold LR;exact ⟨w.heap.size,by simp,rfl⟩
 ·intro hnb
  have hle:=b8m (G:=G) s.H.next w.heap.size
  have hM:=h3.c0h (.box cs) (.cells vs.toArray T (0,0)) (by simp) (by
   refine ⟨by simp [nmG],vs,⟨T,by simp only [nmG,upd_same];rw [a1t,if_pos rfl],h1c⟩,?_⟩
   exact a1d (Nat.le_succ _) hle (fun _ _ e=>e) _ _ (a2a _ _ hR hnb))
  refine ⟨_,_,_,hr,.inl rfl,?_⟩
  simp only [S.eff,hd]
  refine Sim.mk' (L':=s.L) (H':=s.H.add (.box cs)) h2 (a1g (Nat.le_succ _) hle _ _ h1) hM (h4.c0h h3 _ _) (a4t (Nat.le_succ _) hle (fun _ _ e=>e) h5) ?_ (fun u hu=>by cases hu;exact ht)
  unfold LR;exact ⟨Nat.lt_succ_self _,by simp [nmG]⟩
theorem f5d (n:Nat) (vs:List Value):nbs n (vs.map kz):=by
 induction vs with
 | nil=>simp [nbs]
 | cons v vs ih=>simp only [List.map_cons];unfold nbs;exact ⟨by simp [kz,LV.nb],ih⟩
theorem e8j {T:TypeId} {d:TyD} {t:Nat} (ho:o.op=.alloc T) (hok:d.ok P T) (hd:o.dst=some t) (ht:t < s.nt) (hs:Sim E s a w) (pre:Prop) :
  (s.L t=none->OpOk P E s o a w ⟨pre,.lp t 0,.newLoc (d.zero.map kz)⟩)/\OpOk P E s o a w ⟨pre,.gp s.H.next 0,.newNm (.box (d.zero.map kz))⟩:=by
 have:=c7s (P:=P) (x:=.any) (T:=T) (cs:=d.zero.map kz) hd ht hs pre fun G lm _ _=>⟨d.zero,by
  obtain ⟨z,h1,h2⟩:=b6o hok w
  have h3:z.cells=d.zero.toArray:=by rw [<- h2]
  simp [execOp,ho,Instr.alloc,h1,newVar,newRow,h3],c2y hok.one,hok.one⟩
 exact ⟨this.1,this.2 (f5d _ _)⟩
theorem e3d {T:TypeId} {t:Nat} {x:Operand} (ho:o.op=.box T x) (hp:s.argP x) (h1:(s.arg x).cells.all LV.one=true) (hd:o.dst=some t) (ht:t < s.nt) (hs:Sim E s a w) (pre:Prop) :
  (s.L t=none->OpOk P E s o a w ⟨pre,.lp t 0,.newLoc (s.arg x).cells⟩)/\(nbs s.H.next (s.arg x).cells->OpOk P E s o a w ⟨pre,.gp s.H.next 0,.newNm (.box (s.arg x).cells)⟩) :=
 c7s (P:=P) (x:=.any) (T:=T) (cs:=(s.arg x).cells) hd ht hs pre fun G lm _ henv=>⟨(a.eval x).cells.toList,by
  simp [execOp,ho,Instr.box,newVar,newRow],a6l (a0q henv x hp) h1,a5c (a6l (a0q henv x hp) h1) h1⟩
theorem e3c {T:TypeId} {x:Operand} (ho:o.op=.box T x) (hp:s.argP x) (h1:(s.arg x).cells.all LV.one=true) (hdst:∀ t,o.dst=some t->t < s.nt) (hs:Sim E s a w) (pre:Prop) :
  OpOk P E s o a w ⟨pre,.ip (s.arg x).cells 0,.no⟩:=by
 obtain ⟨h2,G,lm,h1',h3,h4,h5,_⟩:=hs
 have hc:=a6l (a0q h5 x hp) h1
 have hone:=a5c hc h1
 have hle:=c5k h3 s.H.next (a.eval x).cells.toList
 have hM:=h3.d7r (a.eval x).cells.toList T (0,0)
 refine ⟨.value (.pointer (some ⟨w.heap.size,0,none⟩)),_,w.alloc (.cells (a.eval x).cells.toList.toArray T (0,0)),by simp [execOp,ho,Instr.box,newVar,newRow],.inl rfl,?_⟩
 refine Sim.mk' (L':=s.L) (H':=s.H) h2 (a1g (Nat.le_refl _) hle _ _ h1') hM (h4.alloc hle (Nat.le_refl _) (fun _ _=>rfl) _) (a4t (Nat.le_refl _) hle (fun _ _ e=>e) h5) ?_ hdst
 unfold LR
 exact ⟨w.heap.size,rfl,f4i (a1d (Nat.le_refl _) hle (fun _ _ e=>e) _ _ hc) (fun i v hv=>by simp only [immG,if_true,Nat.zero_add];exact hv) hone⟩
theorem a3d {d:TyD} {T:TypeId} (hok:d.ok P T) {b off:Nat} {vs:List Value} {cs:List LV} {v:LV} {G:Gh} {nx:Nat} {lm:Nat->Option Nat}
  (hc:∀ (i:Nat) (u:Value),vs[i]?=some u->w.cell? ⟨b,off+i,none⟩=some u) (hR:LRs G nx lm cs vs) (h:a2d d cs=some v) :
  ∃ v',(loadVar T ⟨b,off,none⟩).run P w=.ok v' w/\LR G nx lm v v':=by
 unfold a2d at h
 by_cases ha:d.k.isAgg=true
 ·rw [if_pos ha] at h
  split at h
  ·rename_i hl
   cases h
   have hl2:(vs.take d.sz).length=d.sz:=by
    have:=a0u hR
    simp only [List.length_take];omega
   have hrun:=run_loadCells_list (P:=P) w ⟨b,off,none⟩ (vs.take d.sz) (fun j u hu=>by
    rw [addr_add]
    rw [List.getElem?_take] at hu
    split at hu
    ·exact hc j u hu
    ·cases hu)
   rw [hl2] at hrun
   refine ⟨.agg (vs.take d.sz).toArray,?_,?_⟩
   ·simp [loadVar,b3h hok w,ha,a1n hok w,hrun]
   ·unfold LR;exact ⟨_,rfl,b1g hR d.sz⟩
  ·cases h
 ·rw [if_neg ha] at h
  have h0:cs[0]?=some v:=by rw [<- List.head?_eq_getElem?];exact h
  obtain ⟨u,h1,h2⟩:=a6y hR 0 v h0
  have hcell:=hc 0 u h1
  simp at hcell
  refine ⟨u,?_,h2⟩
  have hf:d.k.isAgg=false:=by simpa using ha
  simp [loadVar,b3h hok w,hf,run_load,hcell]
theorem a6m {b off:Nat} {vs:List Value} (h:b0j w b vs) (i:Nat) (u:Value) (hu:(vs.drop off)[i]?=some u):w.cell? ⟨b,off+i,none⟩=some u:=by
 obtain ⟨T,h1,_⟩:=h
 rw [cell_of h1];simpa using hu
theorem d9p {T:TypeId} {d:TyD} {p:Operand} {k off:Nat} {cs:List LV} {v:LV} (ho:o.op=.load T p) (hok:d.ok P T) (hp:s.argP p) (ha:s.arg p=.lp k off) (hL:s.L k=some cs) (hv:a2d d (cs.drop off)=some v)
  (hs:Sim E s a w) (hdst:∀ t,o.dst=some t->t < s.nt) (pre:Prop):OpOk P E s o a w ⟨pre,v,.no⟩ :=
 OpOk.pure hs hdst fun G lm hM henv=>by
  have h1:=a0q henv p hp
  rw [ha] at h1;unfold LR at h1
  obtain ⟨b,hb,he⟩:=h1
  obtain ⟨b',vs,g1,g2,g3,g4⟩:=hM.loc k cs hL
  have:b'=b:=by rw [g1] at hb;exact Option.some.inj hb
  subst this
  obtain ⟨v',q1,q2⟩:=a3d hok (a6m g3 (off:=off)) (a2u g4 off) hv
  exact ⟨v',by simp [execOp,ho,Instr.loadAt,Instr.sureAddr,he,q1],q2⟩
theorem d9r {T:TypeId} {d:TyD} {p:Operand} {n off:Nat} {cs:List LV} {v:LV} (ho:o.op=.load T p) (hok:d.ok P T) (hp:s.argP p) (ha:s.arg p=.gp n off) (hL:s.H.obj n=some (.box cs)) (hv:a2d d (cs.drop off)=some v)
  (hs:Sim E s a w) (hdst:∀ t,o.dst=some t->t < s.nt) (pre:Prop):OpOk P E s o a w ⟨pre,v,.no⟩ :=
 OpOk.pure hs hdst fun G lm hM henv=>by
  have h1:=a0q henv p hp
  rw [ha] at h1;unfold LR at h1
  obtain ⟨_,he⟩:=h1
  obtain ⟨_,g2,vs,g3,g4⟩:=hM.nmd n _ hL
  obtain ⟨v',q1,q2⟩:=a3d hok (a6m g3 (off:=off)) (a2u g4 off) hv
  exact ⟨v',by simp [execOp,ho,Instr.loadAt,Instr.sureAddr,he,q1],a0v (Nat.le_refl _) (Gh.le_refl _ _) (fun _ _ e=>by cases e) _ _ q2⟩
theorem d9s {T:TypeId} {d:TyD} {p:Operand} {n off:Nat} {cs:List LV} {v:LV} (ho:o.op=.load T p) (hok:d.ok P T) (hp:s.argP p) (ha:s.arg p=.gp n off) (hL:s.H.obj n=some (.fz cs)) (hv:a2d d (cs.drop off)=some v)
  (hs:Sim E s a w) (hdst:∀ t,o.dst=some t->t < s.nt) (pre:Prop):OpOk P E s o a w ⟨pre,v,.no⟩ :=
 OpOk.pure hs hdst fun G lm hM henv=>by
  have h1:=a0q henv p hp
  rw [ha] at h1;unfold LR at h1
  obtain ⟨_,he⟩:=h1
  obtain ⟨_,vs,g3,g4⟩:=hM.nmd n _ hL
  obtain ⟨v',q1,q2⟩:=a3d (w:=w) (b:=G.nm n) (off:=off) hok (fun i u hu=>hM.imm _ _ _ (g3 (off+i) u (by simpa using hu))) (a2u g4 off) hv
  exact ⟨v',by simp [execOp,ho,Instr.loadAt,Instr.sureAddr,he,q1],a0v (Nat.le_refl _) (Gh.le_refl _ _) (fun _ _ e=>by cases e) _ _ q2⟩
theorem d9q {T:TypeId} {d:TyD} {p:Operand} {off:Nat} {cs:List LV} {v:LV} (ho:o.op=.load T p) (hok:d.ok P T) (hp:s.argP p) (ha:s.arg p=.ip cs off) (hv:a2d d (cs.drop off)=some v)
  (hs:Sim E s a w) (hdst:∀ t,o.dst=some t->t < s.nt) (pre:Prop):OpOk P E s o a w ⟨pre,v,.no⟩ :=
 OpOk.pure hs hdst fun G lm hM henv=>by
  have h1:=a0q henv p hp
  rw [ha] at h1;unfold LR at h1
  obtain ⟨b,he,hI⟩:=h1
  obtain ⟨vs,_,g3,g4,_⟩:=d8f _ _ hI
  obtain ⟨v',q1,q2⟩:=a3d (w:=w) (b:=b) (off:=off) hok (fun i u hu=>hM.imm _ _ _ (by have:=g3 (off+i) u (by simpa using hu);simpa using this)) (a2u g4 off) hv
  exact ⟨v',by simp [execOp,ho,Instr.loadAt,Instr.sureAddr,he,q1],q2⟩
theorem c4c {G:Gh} {lm:Nat->Option Nat} {L:Nat->Option (List LV)} {H:GH} (hM:MR G lm L H w) {n g sz:Nat} {e:TypeId} {cs:List LV} {ex:Bool} (hn:H.obj n=some (.vec e g sz cs ex)) :
  n < H.next/\G.tip n=g/\0 < sz/\∃ b C vs rest,G.av n=.slice (some ⟨b,sz,none⟩) 0 C/\C<=maxLen/\G.own b=.nm n/\w.heap[b]?=some (.cells (vs ++ rest).toArray e (0,0))/\(∀ v ∈ vs ++ rest,v.oneCell'=true) /\
   LRs G H.next noL cs vs/\(vs ++ rest).length=C * sz/\(ex=true->rest=[])/\sz ∣ cs.length:=by
 obtain ⟨h1,h2,h3,h4⟩:=hM.nmd n _ hn
 exact ⟨h1,h2,h3,h4⟩
theorem d9o {T:TypeId} {d:TyD} {p:Operand} {n g off sz:Nat} {e:TypeId} {cs:List LV} {ex:Bool} {v:LV} (ho:o.op=.load T p) (hok:d.ok P T) (hp:s.argP p) (ha:s.arg p=.vp n g off) (hL:s.H.obj n=some (.vec e g sz cs ex)) (hv:a2d d (cs.drop off)=some v)
  (hs:Sim E s a w) (hdst:∀ t,o.dst=some t->t < s.nt) (pre:Prop):OpOk P E s o a w ⟨pre,v,.no⟩ :=
 OpOk.pure hs hdst fun G lm hM henv=>by
  have h1:=a0q henv p hp
  rw [ha] at h1;unfold LR at h1
  obtain ⟨_,_,b,o',he,h2⟩:=h1
  obtain ⟨_,htip,_,b',C,vs,rest,q1,_,_,q2,_,q3,_⟩:=c4c hM hL
  obtain ⟨rfl,sz',C',h3⟩:=h2 htip.symm
  rw [q1] at h3;cases h3
  obtain ⟨v',r1,r2⟩:=a3d (w:=w) (b:=b) (off:=o') hok (fun i u hu=>by
   rw [cell_of q2]
   have hu':vs[o' + i]?=some u:=by simpa using hu
   have hlt:=(List.getElem?_eq_some_iff.1 hu').1
   simp only [List.getElem?_toArray,List.getElem?_append_left hlt];exact hu') (a2u q3 o') hv
  exact ⟨v',by simp [execOp,ho,Instr.loadAt,Instr.sureAddr,he,r1],a0v (Nat.le_refl _) (Gh.le_refl _ _) (fun _ _ e=>by cases e) _ _ r2⟩
theorem e9q {M:Mem} {b o0 es i:Nat} {xs:List (List DV)} (hi:i < xs.length) (hes:∀ r ∈ xs,r.length=es) (h:RR M b o0 xs):(xs.getD i []).length=es/\RC M b (o0+i * es) (xs.getD i []):=by
 have hx:xs[i]?=some (xs.getD i []):=by simp [List.getD,List.getElem?_eq_getElem hi]
 exact ⟨hes _ (List.mem_of_getElem? hx),f2b hes h i _ hx⟩
theorem c2f {T:TypeId} {d:TyD} {p:Operand} {xs:List (List DV)} {es i off:Nat} {v:LV} (ho:o.op=.load T p) (hok:d.ok P T) (hp:s.argP p) (ha:s.arg p=.ep xs es i off)
  (hv:(d.k.isAgg=true/\off+d.sz<=es/\v=.agg ((((xs.getD i []).drop off).take d.sz).map .d)) \/ (d.k.isAgg=false/\off < es/\v=.d ((xs.getD i []).getD off default)))
  (hs:Sim E s a w) (hdst:∀ t,o.dst=some t->t < s.nt) (pre:Prop):OpOk P E s o a w ⟨pre,v,.no⟩ :=
 OpOk.pure hs hdst fun G lm hM henv=>by
  have h1:=a0q henv p hp
  rw [ha] at h1;unfold LR at h1
  obtain ⟨b,o0,he,hi,hes,hR⟩:=h1
  obtain ⟨hl,hC⟩:=e9q hi hes hR
  generalize xs.getD i []=row at hl hC hv
  obtain ⟨vs,g1,g2,g3⟩:=c6e (G:=G) (nx:=s.H.next) (lm:=lm) _ _ hC
  have hvo:a2d d ((row.map LV.d).drop off)=some v:=by
   unfold a2d
   rcases hv with ⟨q1,q2,rfl⟩ | ⟨q1,q2,rfl⟩
   ·rw [if_pos q1,if_pos (by simp only [List.length_drop,List.length_map];omega)]
    simp [List.map_drop,List.map_take]
   ·rw [if_neg (by simp [q1])]
    rw [List.head?_drop,List.getElem?_map,List.getElem?_eq_getElem (show off < row.length by omega)]
    simp [List.getD,List.getElem?_eq_getElem (show off < row.length by omega)]
  have hcell:∀ j u,(vs.drop off)[j]?=some u->w.cell? ⟨b,o0+i * es+off+j,none⟩=some u:=fun j u hu=>by
   have:=hM.imm _ _ _ (g2 (off+j) u (by simpa using hu))
   rw [show o0+i * es+off+j=o0+i * es+(off+j) from by omega];exact this
  obtain ⟨v',q1,q2⟩:=a3d hok hcell (a2u g3 off) hvo
  exact ⟨v',by simp [execOp,ho,Instr.loadAt,Instr.sureAddr,he,q1],q2⟩
end
end Go.Aft
end
section
namespace Go.Aft
def b3q (k:Nat) (lm:Nat->Option Nat):Nat->Option Nat:=fun j=>if j=k then none else lm j
def frzG (G:Gh) (b:Nat) (vs:List Value):Gh:={ G with M:=fun x o=>if x=b then vs[o]? else G.M x o,own:=fun x=>if x=b then .none else G.own x }
mutual
theorem d4n {G:Gh} {nx:Nat} {lm lm':Nat->Option Nat}:∀ (x:LV) (v:Value),LR G nx lm x v->x.noLp=true->LR G nx lm' x v
 | .d x,v,h,_=>by unfold LR at h |-;exact h
 | .lp k off,v,h,hb=>by simp [LV.noLp] at hb
 | .gp m off,v,h,hb=>by unfold LR at h |-;exact h
 | .ep xs es i off,v,h,_=>by unfold LR at h |-;exact h
 | .osl m xs,v,h,hb=>by unfold LR at h |-;exact h
 | .gm m,v,h,hb=>by unfold LR at h |-;exact h
 | .vs _ _ _ _ _,v,h,hb=>by unfold LR at h |-;exact h
 | .vp _ _ _,v,h,hb=>by unfold LR at h |-;exact h
 | .yl _,v,h,hb=>by unfold LR at h |-;exact h
 | .ip cs off,v,h,hb=>by unfold LV.noLp at hb;unfold LR at h |-;obtain ⟨b,h1,h2⟩:=h;exact ⟨b,h1,e7d b 0 cs h2 hb⟩
 | .fn f first cap,v,h,hb=>by
  unfold LR at h |-;unfold LV.noLp at hb;simp only [Bool.and_eq_true] at hb
  obtain ⟨fs,cs,h1,h2,h3⟩:=h
  exact ⟨fs,cs,h1,b1h _ _ h2 hb.1,b1h _ _ h3 hb.2⟩
 | .agg cs,v,h,hb=>by unfold LR at h |-;unfold LV.noLp at hb;obtain ⟨vs,h1,h2⟩:=h;exact ⟨vs,h1,b1h _ _ h2 hb⟩
 | .tup cs,v,h,hb=>by unfold LR at h |-;unfold LV.noLp at hb;obtain ⟨vs,h1,h2⟩:=h;exact ⟨vs,h1,b1h _ _ h2 hb⟩
 | .gd g raw,v,h,hb=>by unfold LR at h |-;unfold LV.noLp at hb;exact ⟨fun e=>d4n raw v (h.1 e) hb,h.2⟩
 | .any,v,_,_=>by simp [LR]
theorem b1h {G:Gh} {nx:Nat} {lm lm':Nat->Option Nat}:∀ (xs:List LV) (vs:List Value),LRs G nx lm xs vs->a5u xs=true->LRs G nx lm' xs vs
 | [],vs,h,_=>by unfold LRs at h |-;exact h
 | c :: cs,vs,h,hb=>by
  unfold LRs at h |-;unfold a5u at hb;simp only [Bool.and_eq_true] at hb
  obtain ⟨v,r,h1,h2,h3⟩:=h
  exact ⟨v,r,h1,d4n c v h2 hb.1,b1h cs r h3 hb.2⟩
theorem e7d {G:Gh} {nx:Nat} {lm lm':Nat->Option Nat}:∀ (b o:Nat) (xs:List LV),IR G nx lm b o xs->a5u xs=true->IR G nx lm' b o xs
 | b,o,[],h,_=>by simp [IR]
 | b,o,c :: cs,h,hb=>by
  unfold IR at h |-;unfold a5u at hb;simp only [Bool.and_eq_true] at hb
  obtain ⟨⟨v,h1,h1',h2⟩,h3⟩:=h
  exact ⟨⟨v,h1,h1',d4n c v h2 hb.1⟩,e7d b (o+1) cs h3 hb.2⟩
end
mutual
theorem d8e {G G':Gh} {nx k b0:Nat} {lm:Nat->Option Nat} {cs:List LV} (hl:lm k=some b0) (hle:G.le nx G') (hI:IR G' nx (b3q k lm) b0 0 cs):∀ (x:LV) (v:Value),LR G nx lm x v->LR G' nx (b3q k lm) (x.sub k cs) v
 | .d x,v,h=>by unfold LV.sub;unfold LR at h |-;exact b2j hle.M _ _ h
 | .lp j off,v,h=>by
  unfold LV.sub
  unfold LR at h
  obtain ⟨b,h1,h2⟩:=h
  by_cases e:j=k
  ·subst e;rw [if_pos rfl];unfold LR
   rw [hl] at h1;cases h1
   exact ⟨b0,h2,hI⟩
  ·rw [if_neg e];unfold LR
   exact ⟨b,by simp only [b3q,if_neg e];exact h1,h2⟩
 | .gp m off,v,h=>by have:=a0v (Nat.le_refl _) hle (fun _ _ e=>e) _ _ h;unfold LV.sub;unfold LR at this |-;exact this
 | .ep xs es i off,v,h=>by have:=a0v (Nat.le_refl _) hle (fun _ _ e=>e) _ _ h;unfold LV.sub;unfold LR at this |-;exact this
 | .osl m xs,v,h=>by have:=a0v (Nat.le_refl _) hle (fun _ _ e=>e) _ _ h;unfold LV.sub;unfold LR at this |-;exact this
 | .gm m,v,h=>by have:=a0v (Nat.le_refl _) hle (fun _ _ e=>e) _ _ h;unfold LV.sub;unfold LR at this |-;exact this
 | .vs _ _ _ _ _,v,h=>by have:=a0v (Nat.le_refl _) hle (fun _ _ e=>e) _ _ h;unfold LV.sub;unfold LR at this |-;exact this
 | .vp _ _ _,v,h=>by have:=a0v (Nat.le_refl _) hle (fun _ _ e=>e) _ _ h;unfold LV.sub;unfold LR at this |-;exact this
 | .yl _,v,h=>by have:=a0v (Nat.le_refl _) hle (fun _ _ e=>e) _ _ h;unfold LV.sub;unfold LR at this |-;exact this
 | .ip xs off,v,h=>by unfold LV.sub;unfold LR at h |-;obtain ⟨b,h1,h2⟩:=h;exact ⟨b,h1,f2c hl hle hI b 0 xs h2⟩
 | .fn f first cap,v,h=>by
  unfold LV.sub;unfold LR at h |-
  obtain ⟨fs,us,h1,h2,h3⟩:=h
  exact ⟨fs,us,h1,b5h hl hle hI _ _ h2,b5h hl hle hI _ _ h3⟩
 | .agg xs,v,h=>by unfold LV.sub;unfold LR at h |-;obtain ⟨vs,h1,h2⟩:=h;exact ⟨vs,h1,b5h hl hle hI _ _ h2⟩
 | .tup xs,v,h=>by unfold LV.sub;unfold LR at h |-;obtain ⟨vs,h1,h2⟩:=h;exact ⟨vs,h1,b5h hl hle hI _ _ h2⟩
 | .gd g raw,v,h=>by unfold LV.sub;unfold LR at h |-;exact ⟨fun e=>d8e hl hle hI raw v (h.1 e),h.2⟩
 | .any,v,h=>by unfold LV.sub;simp [LR]
theorem b5h {G G':Gh} {nx k b0:Nat} {lm:Nat->Option Nat} {cs:List LV} (hl:lm k=some b0) (hle:G.le nx G') (hI:IR G' nx (b3q k lm) b0 0 cs):∀ (xs:List LV) (vs:List Value),LRs G nx lm xs vs->LRs G' nx (b3q k lm) (subs k cs xs) vs
 | [],vs,h=>by unfold subs;unfold LRs at h |-;exact h
 | x :: xs,vs,h=>by
  unfold subs;unfold LRs at h |-
  obtain ⟨v,r,h1,h2,h3⟩:=h
  exact ⟨v,r,h1,d8e hl hle hI x v h2,b5h hl hle hI xs r h3⟩
theorem f2c {G G':Gh} {nx k b0:Nat} {lm:Nat->Option Nat} {cs:List LV} (hl:lm k=some b0) (hle:G.le nx G') (hI:IR G' nx (b3q k lm) b0 0 cs):∀ (b o:Nat) (xs:List LV),IR G nx lm b o xs->IR G' nx (b3q k lm) b o (subs k cs xs)
 | b,o,[],h=>by unfold subs;simp [IR]
 | b,o,x :: xs,h=>by
  unfold subs;unfold IR at h |-
  obtain ⟨⟨v,h1,h1',h2⟩,h3⟩:=h
  exact ⟨⟨v,hle.M _ _ _ h1,h1',d8e hl hle hI x v h2⟩,f2c hl hle hI b (o+1) xs h3⟩
end
section
variable {E:Ent} {G:Gh} {lm:Nat->Option Nat} {L:Nat->Option (List LV)} {H:GH} {w:World}
theorem MR.f5k (h:MR G lm L H w) (hx:Ext E G H w) (k b:Nat) (hb:lm k=some b) {cs:List LV} (hk:L k=some cs) (hn:a5u cs=true) :
  ∃ G',MR G' (b3q k lm) (fun j=>if j=k then none else (L j).map (subs k cs)) H w/\Ext E G' H w/\G.le H.next G'/\IR G' H.next (b3q k lm) b 0 cs:=by
 obtain ⟨b',vs,g1,g2,g3,g4⟩:=h.loc k cs hk
 have:b'=b:=by rw [g1] at hb;exact Option.some.inj hb
 subst this
 obtain ⟨T,g3a,g3b⟩:=g3
 have hMb:∀ o v,G.M b' o ≠ some v:=fun o v hv=>by
  rcases h.immOwn b' o v hv with q | ⟨n,e,sz,m,q,_⟩ <;> rw [g2] at q <;> cases q
 have hle:G.le H.next (frzG G b' vs):=⟨fun b o v hv=>by
   have:b ≠ b':=fun e=>hMb o v (e ▸ hv)
   simp only [frzG,if_neg this];exact hv,fun _ _=>rfl,fun _ _=>⟨Nat.le_refl _,fun _=>rfl⟩⟩
 have hI:IR (frzG G b' vs) H.next (b3q k lm) b' 0 cs:=f4i (b1h _ _ (a1d (Nat.le_refl _) hle (fun _ _ e=>e) _ _ g4) hn) (fun i v hv=>by simp only [frzG,if_true,Nat.zero_add];exact hv) g3b
 have hown:∀ x,x ≠ b'->(frzG G b' vs).own x=G.own x:=fun x hx=>by simp only [frzG,if_neg hx]
 refine ⟨frzG G b' vs,⟨fun x o v hv=>?_,fun x o v hv=>?_,fun x hx=>?_,fun j hj=>?_,fun j cs' hj=>?_,fun n o hn'=>?_⟩,?_,hle,hI⟩
 ·by_cases e:x=b'
  ·subst e
   simp only [frzG,if_true] at hv
   rw [cell_of g3a];simpa using hv
  ·simp only [frzG,if_neg e] at hv;exact h.imm x o v hv
 ·by_cases e:x=b'
  ·subst e;left;simp [frzG]
  ·simp only [frzG,if_neg e] at hv |-;exact h.immOwn x o v hv
 ·have hlt:=heap_lt g3a
  have e:x ≠ b':=by omega
  have:=h.fresh x hx
  simp only [frzG,if_neg e];exact this
 ·by_cases e:j=k
  ·simp [b3q,e]
  ·simp only [b3q,if_neg e]
   refine h.lmL j ?_
   simp only [if_neg e] at hj
   cases hL:L j with
   | none=>rfl
   | some x=>rw [hL] at hj;cases hj
 ·by_cases e:j=k
  ·simp [e] at hj
  ·simp only [if_neg e] at hj
   cases hL:L j with
   | none=>rw [hL] at hj;cases hj
   | some x =>
    rw [hL] at hj;cases hj
    obtain ⟨c,us,q1,q2,q3,q4⟩:=h.loc j x hL
    have hc:c ≠ b':=fun e'=>by rw [e',g2] at q2;cases q2;exact e rfl
    exact ⟨c,us,by simp only [b3q,if_neg e];exact q1,by rw [hown c hc];exact q2,q3,b5h hb hle hI _ _ q4⟩
 ·obtain ⟨q1,q2⟩:=h.nmd n o hn'
  refine ⟨q1,a3l (Nat.le_refl _) q1 hle q2 ⟨rfl,rfl⟩ fun x hx=>?_⟩
  have hne:x ≠ b':=fun e=>by rw [e,g2] at hx;cases hx
  exact ⟨by rw [hown x hne];exact hx,rfl,fun o v hv=>by simpa only [frzG,if_neg hne] using hv⟩
 ·refine ⟨⟨Gh.le_trans hx.nx hx.le hle,hx.nx,hx.os,hx.tape,hx.output,hx.drawn,hx.size,hx.frame,fun x hx'=>?_⟩,hx.nl⟩
  by_cases e:x=b'
  ·subst e
   rcases hx.own x hx' with q | ⟨_,q⟩
   ·rw [g2] at q;exact absurd q.symm (hx.nl _ _)
   ·rw [g2] at q;cases q
  ·rw [hown x e];exact hx.own x hx'
end
def S.frz (s:S) (k:Nat) (cs:List LV):S:={ s with L:=fun j=>if j=k then none else (s.L j).map (subs k cs),env:=fun t=>(s.env t).sub k cs }
theorem Sim.frz {E:Ent} {s:S} {a:Act} {w:World} (h:Sim E s a w) {k:Nat} {cs:List LV} (hk:s.L k=some cs) (hn:a5u cs=true):Sim E (s.frz k cs) a w:=by
 obtain ⟨h2,G,lm,h1,hM,hx,henv,_⟩:=h
 obtain ⟨b,vs,g1,_⟩:=hM.loc k cs hk
 obtain ⟨G',q1,q2,q3,q4⟩:=hM.f5k hx k b g1 hk hn
 exact ⟨h2,G',b3q k lm,a1g (Nat.le_refl _) q3 _ _ h1,q1,q2,fun t=>d8e g1 q3 q4 _ _ (henv t),rfl⟩
end Go.Aft
end
