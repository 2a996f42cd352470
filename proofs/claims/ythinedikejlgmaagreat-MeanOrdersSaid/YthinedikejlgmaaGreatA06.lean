import Derived.Test.YthinedikejlgmaaGreatA05
set_option linter.all false
section
namespace Go.Aft
section
variable {P:Program} {ty:TypeId->Option TyD} {pub:Nat->Kd} {E:Ent} {s:S} {a:Act} {w:World} {o:Oper} {r:Res}
theorem c9j (off:Nat):∀ (c:List Value) (k:Nat) (cs:Array Value) (i:Nat),
  ((c.zipIdx k).foldl (fun (cs:Array Value) (p:Value × Nat)=>cs.setIfInBounds (off+p.2) p.1) cs)[i]?=if off+k<=i/\i < off+k+c.length/\i < cs.size then c[i - (off+k)]? else cs[i]?
 | [],k,cs,i=>by simp;intro h1 h2;omega
 | v :: c,k,cs,i=>by
  simp only [List.zipIdx_cons,List.foldl_cons]
  rw [c9j off c (k+1)]
  simp only [Array.size_setIfInBounds,Array.getElem?_setIfInBounds,List.length_cons]
  by_cases e:off+k=i
  ·subst e
   rw [if_neg (by omega),if_pos rfl]
   by_cases e2:off+k < cs.size
   ·rw [if_pos e2,if_pos ⟨Nat.le_refl _,by omega,e2⟩];simp
   ·rw [if_neg e2,if_neg (by omega)];simp [Array.getElem?_eq_none (Nat.le_of_not_lt e2)]
  ·rw [if_neg e]
   by_cases e3:off+(k+1)<=i/\i < off+(k+1)+c.length/\i < cs.size
   ·rw [if_pos e3,if_pos (by omega)]
    rw [show i - (off+k)=i - (off+(k+1))+1 from by omega];simp
   ·rw [if_neg e3,if_neg (by omega)]
theorem c9i (off:Nat) (c:List Value) (cs:Array Value) (h:off+c.length<=cs.size) :
  (c.zipIdx).foldl (fun (cs:Array Value) (p:Value × Nat)=>cs.setIfInBounds (off+p.2) p.1) cs=(cs.toList.take off ++ c ++ cs.toList.drop (off+c.length)).toArray:=by
 apply Array.ext_getElem?
 intro i
 rw [c9j off c 0 cs i]
 simp only [Nat.add_zero,List.getElem?_toArray,List.append_assoc,List.getElem?_append,List.length_take,Array.length_toList,List.getElem?_take,List.getElem?_drop,Array.getElem?_toList]
 by_cases e1:i < off
 ·rw [if_neg (by omega),if_pos (by omega),if_pos e1]
 ·by_cases e2:i < off+c.length
  ·rw [if_pos ⟨by omega,e2,by omega⟩,if_neg (by omega),if_pos (by omega)]
   rw [show min off cs.size=off from by omega]
  ·rw [if_neg (by omega),if_neg (by omega),if_neg (by omega)]
   congr 1
   omega
theorem e4r {G:Gh} {nx:Nat} {lm:Nat->Option Nat} {place pc:Nat->Option (Nat × Nat)} (hpc:∀ i r,place i=some r->pc i=some r):∀ (ps:List (Nat × LV)) (qs:List (Nat × Value)) (cs cs':List LV) (vs:List Value),
  qs.map (·.1)=ps.map (·.1)->LRs G nx lm (ps.map (·.2)) (qs.map (·.2))->LRs G nx lm cs vs->(∀ v ∈ vs,v.oneCell'=true)->d3l place cs ps=some cs' ->
  ∃ vs',Instr.fill pc vs.toArray qs=some vs'.toArray/\LRs G nx lm cs' vs'/\∀ v ∈ vs',v.oneCell'=true
 | [],qs,cs,cs',vs,h1,_,h3,h4,h5=>by
  cases qs with
  | nil=>simp [d3l] at h5;subst h5;exact ⟨vs,by simp [Instr.fill],h3,h4⟩
  | cons q qs=>simp at h1
 | (i,x) :: ps,qs,cs,cs',vs,h1,h2,h3,h4,h5=>by
  cases qs with
  | nil=>simp at h1
  | cons q qs =>
   obtain ⟨j,v⟩:=q
   simp at h1
   obtain ⟨rfl,h1⟩:=h1
   simp only [List.map_cons] at h2
   unfold LRs at h2
   obtain ⟨v',r,e,h2a,h2b⟩:=h2
   simp at e;obtain ⟨rfl,rfl⟩:=e
   simp only [d3l] at h5
   cases hp:place j with
   | none=>rw [hp] at h5;cases h5
   | some pr =>
    obtain ⟨off,size⟩:=pr
    rw [hp] at h5
    simp only at h5
    split at h5
    ·cases h5
    ·rename_i hc
     have hc1:x.cells.length=size/\off+x.cells.length<=cs.length/\x.cells.all LV.one=true:=by
      refine ⟨?_,?_,?_⟩
      ·exact Classical.byContradiction fun q=>hc (.inl q)
      ·exact Classical.byContradiction fun q=>hc (.inr (.inl (by omega)))
      ·exact Classical.byContradiction fun q=>hc (.inr (.inr (by simpa using q)))
     have hcv:=a6l h2a hc1.2.2
     have hl:=a0u hcv
     have hl3:=a0u h3
     have hf:=c9i off v.cells.toList vs.toArray (by simp only [List.size_toArray];omega)
     obtain ⟨vs',g1,g2,g3⟩:=e4r hpc ps qs _ cs' _ h1 h2b (a9p h3 hcv off) (b2z h4 (a5c hcv hc1.2.2) off _) h5
     refine ⟨vs',?_,g2,g3⟩
     simp only [Instr.fill,hpc _ _ hp]
     rw [if_neg (by
      simp only [Array.length_toList] at hl
      simp;omega)]
     have:v.cells.zipIdx.foldl (fun (cs:Array Value) (x:Value × Nat)=>cs.setIfInBounds (off+x.2) x.1) vs.toArray=(v.cells.toList.zipIdx).foldl (fun (cs:Array Value) (p:Value × Nat)=>cs.setIfInBounds (off+p.2) p.1) vs.toArray:=by
      rw [<- Array.toList_zipIdx,Array.foldl_toList]
     rw [this,hf]
     exact g1
theorem d5y {α β:Type} (f:α->Sem β) (g:α->β) (w:World):∀ l:List α,(∀ x ∈ l,(f x).run P w=.ok (g x) w)->(l.mapM f).run P w=.ok (l.map g) w
 | [],_=>by simp
 | x :: l,h=>by
  have h1:=h x (List.mem_cons_self ..)
  have h2:=d5y f g w l fun y hy=>h y (List.mem_cons_of_mem _ hy)
  simp [List.mapM_cons,h1,h2]
theorem e6j {α β:Type} (f:α->Sem β) (g:α->β) (w:World) (l:Array α) (h:∀ x ∈ l.toList,(f x).run P w=.ok (g x) w):(l.mapM f).run P w=.ok (l.map g) w:=by
 rw [Array.mapM_eq_mapM_toList]
 have:=d5y (P:=P) f g w l.toList h
 simp only [Sem.run_map,this,Result.andThen_ok]
 congr 1
 apply Array.ext';simp
theorem b6s {G:Gh} {lm:Nat->Option Nat} {nx:Nat} (h:∀ t,LR G nx lm (s.env t) (a.tmps.getD t undef)):∀ ps:List (Nat × Operand),a9d s ps ->
  LRs G nx lm (ps.map fun p=>s.arg p.2) (ps.map fun p=>a.eval p.2)
 | [],_=>by simp [LRs]
 | p :: ps,hp=>by simp only [List.map_cons];unfold LRs;exact ⟨_,_,rfl,a0q h p.2 hp.1,b6s h ps hp.2⟩
theorem e8h {T:TypeId} {d:TyD} {parts:Array (Nat × Operand)} {cs:List LV} (hty:TyOk P ty) (ho:o.op=.build T parts) (hT:ty T=some d) (hag:d.k.isAgg=true) (hall:∀ fs,d.k=.agg fs->∀ p ∈ fs,(ty p.2).isSome=true) (harr:∀ n e,d.k=.arr n e->(ty e).isSome=true)
  (hf:d3l (places ty d) (d.zero.map kz) (parts.toList.map fun p=>(p.1,s.arg p.2))=some cs) (hp:a9d s parts.toList)
  (hs:Sim E s a w) (hdst:∀ t,o.dst=some t->t < s.nt) (pre:Prop):OpOk P E s o a w ⟨pre,.agg cs,.no⟩ :=
 OpOk.pure hs hdst fun G lm _ henv=>by
  have hok:=hty T d hT
  obtain ⟨z,hz1,hz2⟩:=b6o hok w
  have hz3:z.cells=d.zero.toArray:=by rw [<- hz2]
  obtain ⟨desc,h1,h2⟩:=hok.u
  have key:∀ pc:Nat->Option (Nat × Nat),(∀ i r,places ty d i=some r->pc i=some r)->∃ vs',Instr.fill pc d.zero.toArray (parts.map fun p=>(p.1,a.eval p.2)).toList=some vs'.toArray/\LRs G s.H.next lm cs vs':=by
   intro pc hpc
   obtain ⟨vs',g1,g2,_⟩:=e4r (G:=G) (nx:=s.H.next) (lm:=lm) hpc (parts.toList.map fun p=>(p.1,s.arg p.2)) (parts.toList.map fun p=>(p.1,a.eval p.2)) (d.zero.map kz) cs d.zero (by simp) (by
    simp only [List.map_map]
    exact b6s henv _ hp) (c2y hok.one) hok.one hf
   exact ⟨vs',by rw [Array.toList_map];exact g1,g2⟩
  cases desc with
  | struct flds =>
   cases hk:d.k <;> rw [hk] at h2 <;> simp only [TK.ok] at h2
   rename_i fs
   have hsz:∀ f ∈ flds.toList,(Go.sizeOf f.type).run P w=.ok (((ty f.type).map (·.sz)).getD 0) w:=fun f hf=>by
    have:=hall fs hk (f.offset,f.type) (by rw [<- h2];exact List.mem_map.2 ⟨f,hf,rfl⟩)
    cases ht:ty f.type with
    | none=>rw [ht] at this;cases this
    | some fd=>exact a1n (hty _ fd ht) w
   have hm:=e6j (P:=P) (fun f:Field=>do pure (f.offset,<- Go.sizeOf f.type)) (fun f=>(f.offset,((ty f.type).map (·.sz)).getD 0)) w flds fun f hf=>by simp [hsz f hf]
   obtain ⟨vs',g1,g2⟩:=key (fun i=>(flds.map fun f=>(f.offset,((ty f.type).map (·.sz)).getD 0))[i]?) fun i r hr=>by
    simp only [places,hk] at hr
    cases hi:fs[i]? with
    | none=>rw [hi] at hr;cases hr
    | some p =>
     obtain ⟨off,t⟩:=p
     rw [hi] at hr;simp at hr
     obtain ⟨fld,q1,q2,q3⟩:=d6x h2 hi
     obtain ⟨fd,q4,q5⟩:=hr
     simp [q1,q2,q3,q4,<- q5]
   refine ⟨.agg vs'.toArray,?_,by unfold LR;exact ⟨vs',rfl,g2⟩⟩
   simp only [execOp,ho,Instr.build]
   simp [hz1,run_underlying h1,hz3]
   simp at hm
   rw [hm]
   simp at g1 |-
   rw [g1]
   simp
  | array n e =>
   cases hk:d.k <;> rw [hk] at h2 <;> simp only [TK.ok] at h2
   rename_i n' e'
   obtain ⟨rfl,rfl⟩:=h2
   obtain ⟨ed,he⟩:=Option.isSome_iff_exists.1 (harr _ _ hk)
   obtain ⟨vs',g1,g2⟩:=key (fun i=>some (i * ed.sz,ed.sz)) fun i r hr=>by simpa [places,hk,he] using hr
   refine ⟨.agg vs'.toArray,?_,by unfold LR;exact ⟨vs',rfl,g2⟩⟩
   simp only [execOp,ho,Instr.build]
   simp [hz1,run_underlying h1,hz3,a1n (hty _ ed he) w]
   simp at g1
   rw [g1]
   simp
  | _=>cases hk:d.k <;> rw [hk] at h2 hag <;> simp only [TK.ok] at h2 <;> simp [TK.isAgg] at hag
theorem c5r (size:Nat) (pc:Nat->Option (Nat × Nat)) (hpc:∀ i,pc i=some (i * size,size)):∀ (qs:List (Nat × Value)) (k:Nat) (cs:Array Value),qs.map (·.1)=(List.range' k qs.length)->(∀ q ∈ qs,q.2.cells.size=size)->cs.size=(k+qs.length) * size ->
  Instr.fill pc cs qs=some (cs.toList.take (k * size) ++ (qs.map fun q=>q.2.cells.toList).flatten).toArray
 | [],k,cs,_,_,h=>by
  simp [Instr.fill]
  simp at h
  rw [<- h,<- Array.length_toList,List.take_length]
 | (i,v) :: qs,k,cs,h1,h2,h3=>by
  simp [List.range'_succ] at h1
  obtain ⟨rfl,h1⟩:=h1
  have hv:v.cells.size=size:=h2 (i,v) (List.mem_cons_self ..)
  simp only [List.length_cons] at h3
  have hfit:i * size+size<=cs.size:=by
   rw [h3,show i+(qs.length+1)=(i+1)+qs.length from by omega,Nat.add_mul,Nat.succ_mul];omega
  simp only [Instr.fill,hpc]
  rw [if_neg (by simp;omega)]
  have hf:=c9i (i * size) v.cells.toList cs (by simp;omega)
  have he:v.cells.zipIdx.foldl (fun (cs:Array Value) (x:Value × Nat)=>cs.setIfInBounds (i * size+x.2) x.1) cs=(v.cells.toList.zipIdx).foldl (fun (cs:Array Value) (p:Value × Nat)=>cs.setIfInBounds (i * size+p.2) p.1) cs:=by
   rw [<- Array.toList_zipIdx,Array.foldl_toList]
  rw [he,hf]
  rw [c5r size pc hpc qs (i+1) _ h1 (fun q hq=>h2 q (List.mem_cons_of_mem _ hq)) (by
   simp only [List.size_toArray,List.length_append,List.length_take,List.length_drop,Array.length_toList]
   rw [h3,hv] at *
   rw [show i+(qs.length+1)=(i+1)+qs.length from by omega] at *
   omega)]
  congr 2
  simp only [List.map_cons,List.flatten_cons]
  have hl:(List.take (i * size) cs.toList ++ v.cells.toList).length=(i+1) * size:=by
   simp only [List.length_append,List.length_take,Array.length_toList,hv,Nat.succ_mul];omega
  rw [List.take_append_of_le_length (by rw [hl];exact Nat.le_refl _),<- hl,List.take_length,List.append_assoc]
theorem f4n {G:Gh} {nx:Nat} {lm:Nat->Option Nat} {x:LV} {v:Value} {y:DV} (h:LR G nx lm x v) (hy:toD x=some y):DR G.M y v/\x.one=true:=by
 unfold toD at hy
 split at hy
 ·cases hy;exact ⟨by simpa [LR] using h,rfl⟩
 ·cases hy;unfold LR at h;exact ⟨h.2.1,rfl⟩
 ·cases hy
theorem d0x {G:Gh} {nx:Nat} {lm:Nat->Option Nat} {M:Mem} (hM:G.M.le M) {b:Nat}:∀ {cs:List LV} {ds:List DV} {vs:List Value} {o:Nat},toDs cs=some ds->LRs G nx lm cs vs->(∀ (i:Nat) (v:Value),vs[i]?=some v->M b (o+i)=some v)->RC M b o ds/\ds.length=cs.length/\cs.all LV.one=true
 | [],ds,vs,o,h,_,_=>by simp [toDs] at h;subst h;simp [RC]
 | c :: cs,ds,vs,o,h,hR,hm=>by
  simp only [toDs] at h
  cases hc:toD c with
  | none=>rw [hc] at h;cases h
  | some y =>
   rw [hc] at h
   cases hcs:toDs cs with
   | none=>rw [hcs] at h;cases h
   | some ys =>
    rw [hcs] at h;simp at h;subst h
    unfold LRs at hR
    obtain ⟨v,r,rfl,h1,h2⟩:=hR
    have q:=f4n h1 hc
    have ih:=d0x (o:=o+1) hM hcs h2 fun i v hv=>by have:=hm (i+1) v (by simpa using hv);rw [show o+1+i=o+(i+1) from by omega];exact this
    unfold RC
    exact ⟨⟨⟨v,by simpa using hm 0 v rfl,b2j hM _ _ q.1⟩,ih.1⟩,by simp [ih.2.1],by simp [q.2];simpa using ih.2.2⟩
theorem b6r {G:Gh} {nx:Nat} {lm:Nat->Option Nat} {M:Mem} (hM:G.M.le M) {b size:Nat}:∀ {ps:List (Nat × LV)} {qs:List (Nat × Value)} {rows:List (List DV)} {o:Nat},c0r ps=some rows->LRs G nx lm (ps.map (·.2)) (qs.map (·.2)) ->
  (∀ r ∈ rows,r.length=size)->(∀ (i:Nat) (v:Value),((qs.map fun q=>q.2.cells.toList).flatten)[i]?=some v->M b (o+i)=some v)->RR M b o rows/\(∀ q ∈ qs,q.2.cells.size=size)/\(∀ v ∈ (qs.map fun q=>q.2.cells.toList).flatten,v.oneCell'=true)/\rows.length=ps.length
 | [],qs,rows,o,h,hR,_,_=>by
  simp [c0r] at h;subst h
  simp only [List.map_nil] at hR;unfold LRs at hR
  simp at hR;subst hR
  simp [RR]
 | p :: ps,qs,rows,o,h,hR,hs,hm=>by
  simp only [c0r] at h
  cases hp:toDs p.2.cells with
  | none=>rw [hp] at h;cases h
  | some r =>
   rw [hp] at h
   cases hps:c0r ps with
   | none=>rw [hps] at h;cases h
   | some rs =>
    rw [hps] at h;simp at h;subst h
    cases qs with
    | nil=>simp only [List.map_cons,List.map_nil] at hR;unfold LRs at hR;obtain ⟨_,_,e,_⟩:=hR;cases e
    | cons q qs =>
     simp only [List.map_cons] at hR;unfold LRs at hR
     obtain ⟨v,r',e,h1,h2⟩:=hR
     simp at e;obtain ⟨rfl,rfl⟩:=e
     have hone:p.2.cells.all LV.one=true:=by
      have:∀ {cs:List LV} {ds:List DV},toDs cs=some ds->cs.all LV.one=true:=by
       intro cs
       induction cs with
       | nil=>simp
       | cons c cs ih =>
        intro ds hd
        simp only [toDs] at hd
        cases hc:toD c with
        | none=>rw [hc] at hd;cases hd
        | some y =>
         rw [hc] at hd
         cases hcs:toDs cs with
         | none=>rw [hcs] at hd;cases hd
         | some ys =>
          have h1:c.one=true:=by unfold toD at hc;split at hc <;> first | rfl | cases hc
          simp [h1];simpa using ih hcs
      exact this hp
     have hc:=a6l h1 hone
     have hlen:=a0u hc
     have q1:=d0x (M:=M) (b:=b) (o:=o) hM hp hc fun i u hu=>hm i u (by
      simp only [List.map_cons,List.flatten_cons]
      rw [List.getElem?_append_left (List.getElem?_eq_some_iff.1 hu).1];exact hu)
     have hr:r.length=size:=hs r (List.mem_cons_self ..)
     have hvl:q.2.cells.toList.length=r.length:=by rw [hlen,q1.2.1]
     have ih:=b6r (o:=o+r.length) hM hps h2 (fun x hx=>hs x (List.mem_cons_of_mem _ hx)) fun i u hu=>by
      have:=hm (r.length+i) u (by
       simp only [List.map_cons,List.flatten_cons]
       rw [List.getElem?_append_right (by omega),hvl]
       rw [show r.length+i - r.length=i from by omega];exact hu)
      rw [Nat.add_assoc];exact this
     refine ⟨by unfold RR;exact ⟨q1.1,ih.1⟩,?_,?_,by simp [ih.2.2.2]⟩
     ·intro x hx
      rcases List.mem_cons.1 hx with rfl | hx
      ·rw [<- Array.length_toList,hvl,hr]
      ·exact ih.2.1 x hx
     ·intro u hu
      simp only [List.map_cons,List.flatten_cons] at hu
      rcases List.mem_append.1 hu with hu | hu
      ·exact a5c hc hone u hu
      ·exact ih.2.2.1 u hu
theorem c4x {T e:TypeId} {d ed:TyD} {len:Nat} {parts:Array (Nat × Operand)} {rows:List (List DV)} (ho:o.op=.buildSlice T len parts) (hok:d.ok P T) (hk:d.k=.sl e) (hed:ed.ok P e)
  (hidx:parts.toList.map (·.1)=List.range' 0 len) (hlen:parts.toList.length=len) (hrows:c0r (parts.toList.map fun p=>(p.1,s.arg p.2))=some rows) (hsz:∀ r ∈ rows,r.length=ed.sz) (hbig:len * ed.sz<=16777216) (hlb:len<=16777216) (hp:a9d s parts.toList)
  (hs:Sim E s a w) (hdst:∀ t,o.dst=some t->t < s.nt) (pre:Prop):OpOk P E s o a w ⟨pre,.d (.sl rows),.no⟩:=by
 obtain ⟨g2,G,lm,g1,hM,hx,henv,_⟩:=hs
 obtain ⟨desc,h1,h2⟩:=hok.u
 rw [hk] at h2
 cases desc <;> simp only [TK.ok] at h2
 have h2':=h2.symm
 subst h2'
 let qs:List (Nat × Value):=parts.toList.map fun p=>(p.1,a.eval p.2)
 let vs:List Value:=(qs.map fun q=>q.2.cells.toList).flatten
 have hMle:=c5k hM s.H.next vs
 have hR:LRs G s.H.next lm ((parts.toList.map fun p=>(p.1,s.arg p.2)).map (·.2)) (qs.map (·.2)):=by
  simp only [qs,List.map_map]
  exact b6s henv _ hp
 have hrr:=b6r (M:=(immG G w.heap.size vs).M) (b:=w.heap.size) (o:=0) (size:=ed.sz) hMle.M hrows hR hsz fun i v hv=>by
  simp only [immG,if_true,Nat.zero_add];exact hv
 have hM':=hM.d7r vs e (0,0)
 obtain ⟨z,hz1,hz2⟩:=b6o hed w
 have hrl:rows.length=len:=by rw [hrr.2.2.2];simpa using hlen
 have hrun:(execOp a.eval o).run P w=.ok (.value (.slice (some ⟨w.heap.size,0,none⟩) len len)) (w.alloc (.cells vs.toArray e (0,0))):=by
  have hfill:∀ cs:Array Value,cs.size=len * ed.sz->Instr.fill (fun i=>some (i * ed.sz,ed.sz)) cs (parts.map fun p=>(p.1,a.eval p.2)).toList=some vs.toArray:=fun cs hcs=>by
   have:=c5r ed.sz (fun i=>some (i * ed.sz,ed.sz)) (fun _=>rfl) qs 0 cs (by simp only [qs,List.map_map,List.length_map,hlen];exact hidx) hrr.2.1 (by simp only [qs,List.length_map,hlen,Nat.zero_add];exact hcs)
   rw [Array.toList_map]
   simpa [vs] using this
  simp only [execOp,ho,Instr.buildSlice]
  simp [run_underlying h1,a1n hed w,show ¬ (2 ^ 24 < len * ed.sz) by omega]
  by_cases h0:len * ed.sz=0
  ·have h0':len=0 \/ ed.sz=0:=Nat.mul_eq_zero.1 h0
   have:=hfill (Array.map (fun x=>default) (Array.range 0)) (by simp [h0])
   simp only [Array.toList_map] at this
   simp [h0',h0,newRow]
   rw [this];simp
  ·have h0':¬ (len=0 \/ ed.sz=0):=fun q=>h0 (Nat.mul_eq_zero.2 q)
   have:=hfill ((Array.range (len * ed.sz)).map fun x=>z.cells[x % z.cells.size]!) (by simp)
   simp at this
   simp [h0',hz1,this,newRow]
   exact fun q=>absurd q h0
 refine ⟨_,_,_,hrun,.inl rfl,?_⟩
 refine Sim.mk' (L':=s.L) (H':=s.H) g2 (a1g (Nat.le_refl _) hMle _ _ g1) hM' (hx.alloc hMle (Nat.le_refl _) (fun _ _=>rfl) _) (a4t (Nat.le_refl _) hMle (fun _ _ e=>e) henv) ?_ hdst
 unfold LR DR
 refine ⟨_,len,ed.sz,by rw [hrl],by omega,?_,hsz,?_⟩
 ·simp only [maxLen];omega
 ·exact .inr ⟨w.heap.size,0,rfl,hrr.1⟩
theorem b8i {eqt:TypeId->Option (List Sc)} (hty:TyOk P ty) (heq:EqOk P eqt) (h:a1x ty eqt pub s o.dst o.op=some r) (hp:r.pre) (hs:Sim E s a w) (hdst:∀ t,o.dst=some t->t < s.nt):OpOk P E s o a w r:=by
 obtain ⟨dst,op,type,pos,after,guard⟩:=o
 simp only at h hdst
 cases op with
 | move x=>simp only [a1x,Option.some.injEq] at h;subst h;exact e2y (.inl rfl) hs hdst hp
 | assign x=>simp only [a1x,Option.some.injEq] at h;subst h;exact e2y (.inr rfl) hs hdst hp
 | alloc T =>
  simp only [a1x] at h
  cases hT:ty T with
  | none=>simp [hT] at h
  | some d =>
   cases dst with
   | none=>simp [hT] at h
   | some t =>
    simp only [hT] at h
    have hk:=e8j (P:=P) (o:=⟨some t,.alloc T,type,pos,after,guard⟩) rfl (hty _ _ hT) rfl (hdst t rfl) hs
    cases hpub:pub t <;> simp [hpub] at h <;> subst h
    ·exact (hk _).1 hp
    ·exact (hk _).2
    ·exact (hk _).1 hp
    ·exact (hk _).1 hp
 | box T x =>
  simp only [a1x] at h
  cases hT:ty T with
  | none=>simp [hT] at h
  | some d =>
   cases dst with
   | none=>simp [hT] at h
   | some t =>
    simp only [hT] at h
    split at h
    ·rename_i hc
     simp only [Bool.and_eq_true,decide_eq_true_eq] at hc
     cases hpub:pub t <;> simp [hpub] at h <;> subst h
     ·exact (e3d (P:=P) (o:=⟨some t,.box T x,type,pos,after,guard⟩) rfl hp.1 hc.1 rfl (hdst t rfl) hs _).1 hp.2
     ·exact (e3d (P:=P) (o:=⟨some t,.box T x,type,pos,after,guard⟩) rfl hp.1 hc.1 rfl (hdst t rfl) hs _).2 hp.2
     ·exact e3c rfl hp hc.1 hdst hs _
     ·exact (e3d (P:=P) (o:=⟨some t,.box T x,type,pos,after,guard⟩) rfl hp.1 hc.1 rfl (hdst t rfl) hs _).1 hp.2
    ·cases h
 | build T parts =>
  simp only [a1x] at h
  cases hT:ty T with
  | none=>simp [hT] at h
  | some d =>
   simp only [hT] at h
   split at h
   ·rename_i hf
    simp only [Option.map_eq_some_iff] at h
    obtain ⟨cs,h1,h2⟩:=h
    subst h2
    exact e8h hty rfl hT (by cases hk:d.k <;> simp [hk,b3n,TK.isAgg] at hf |-) (fun fs hk p hp=>by rw [hk] at hf;simp [b3n] at hf;exact hf p.1 p.2 hp) (fun n e hk=>by rw [hk] at hf;simpa [b3n] using hf) h1 hp hs hdst _
   ·cases h
 | buildSlice T len parts =>
  simp only [a1x] at h
  cases hT:ty T with
  | none=>simp [hT] at h
  | some d =>
   obtain ⟨k,sz,zero,bt⟩:=d
   cases k <;> simp only [hT,reduceCtorEq] at h
   rename_i e
   cases he:ty e with
   | none=>simp [he] at h
   | some ed =>
    simp only [he,Option.bind_some] at h
    split at h
    ·rename_i hc
     simp only [Option.map_eq_some_iff] at h
     obtain ⟨rows,h1,h2⟩:=h
     subst h2
     exact c4x rfl (hty _ _ hT) rfl (hty _ _ he) hc.1 hc.2.1 h1 hp.2 hc.2.2.1 hc.2.2.2 hp.1 hs hdst _
    ·cases h
 | load T p =>
  simp only [a1x] at h
  cases hT:ty T with
  | none=>simp [hT] at h
  | some d =>
   simp only [hT] at h
   split at h
   ·rename_i k off ha
    cases hL:s.L k with
    | none=>simp [hL] at h
    | some cs =>
     simp only [hL,Option.bind_some,Option.map_eq_some_iff] at h
     obtain ⟨v,h1,h2⟩:=h
     subst h2
     exact d9p rfl (hty _ _ hT) hp ha hL h1 hs hdst _
   ·rename_i n off ha
    split at h
    ·rename_i cs hL
     simp only [Option.map_eq_some_iff] at h
     obtain ⟨v,h1,h2⟩:=h
     subst h2
     exact d9r rfl (hty _ _ hT) hp ha hL h1 hs hdst _
    ·rename_i cs hL
     simp only [Option.map_eq_some_iff] at h
     obtain ⟨v,h1,h2⟩:=h
     subst h2
     exact d9s rfl (hty _ _ hT) hp ha hL h1 hs hdst _
    ·cases h
   ·rename_i cs off ha
    simp only [Option.map_eq_some_iff] at h
    obtain ⟨v,h1,h2⟩:=h
    subst h2
    exact d9q rfl (hty _ _ hT) hp ha h1 hs hdst _
   ·rename_i n g off ha
    split at h
    ·rename_i e g' sz cs ex hL
     split at h
     ·rename_i eg
      subst eg
      simp only [Option.map_eq_some_iff] at h
      obtain ⟨v,h1,h2⟩:=h
      subst h2
      exact d9o rfl (hty _ _ hT) hp ha hL h1 hs hdst _
     ·cases h
    ·cases h
   ·rename_i xs es i off ha
    split at h
    ·rename_i hag
     simp only [Option.some.injEq] at h;subst h
     exact c2f rfl (hty _ _ hT) hp.1 ha (.inl ⟨hag,hp.2,rfl⟩) hs hdst _
    ·rename_i hag
     simp only [Option.some.injEq] at h;subst h
     exact c2f rfl (hty _ _ hT) hp.1 ha (.inr ⟨by simpa using hag,hp.2,rfl⟩) hs hdst _
   ·cases h
 | store T p x =>
  simp only [a1x] at h
  cases hT:ty T with
  | none=>simp [hT] at h
  | some d =>
   simp only [hT] at h
   split at h
   ·rename_i hc
    split at h
    ·rename_i k off ha
     cases hL:s.L k with
     | none=>simp [hL] at h
     | some cs =>
      simp only [hL,Option.bind_some] at h
      split at h
      ·rename_i hfit
       simp only [Option.some.injEq] at h;subst h
       exact d1w rfl (hty _ _ hT) hp.1 hp.2 ha hL hc.1 hc.2 hfit hs hdst _
      ·cases h
    ·rename_i n g off ha
     split at h
     ·rename_i e g' sz cs ex hL
      split at h
      ·rename_i hfit
       obtain ⟨eg,hfit⟩:=hfit
       subst eg
       simp only [Option.some.injEq] at h;subst h
       exact d1v rfl (hty _ _ hT) hp.1 hp.2.1 ha hL hc.1 hc.2 hfit hp.2.2 hs hdst _
      ·cases h
     ·cases h
    ·rename_i n off ha
     split at h
     ·rename_i cs hL
      split at h
      ·rename_i hfit
       simp only [Option.some.injEq] at h;subst h
       exact d1x rfl (hty _ _ hT) hp.1 hp.2.1 ha hL hc.1 hc.2 hfit hp.2.2 hs hdst _
      ·cases h
     ·cases h
    ·cases h
   ·cases h
 | nilCheck x =>
  simp only [a1x] at h
  split at h
  ·rename_i hk
   simp only [Option.some.injEq] at h;subst h
   exact d1y rfl hk hp hs hdst _
  ·cases h
 | binOp op T x y yT =>
  simp only [a1x,Option.map_eq_some_iff] at h
  obtain ⟨c,h1,h2⟩:=h
  subst h2
  exact f5c hty heq rfl h1 hp.2.2 hp.1 hp.2.1 hs hdst _
 | unOp op T x =>
  simp only [a1x,Option.map_eq_some_iff] at h
  obtain ⟨c,h1,h2⟩:=h
  subst h2
  exact f6e rfl h1 hp hs hdst _
 | fieldAddr T x f =>
  simp only [a1x] at h
  cases hT:ty T with
  | none=>simp [hT] at h
  | some d =>
   obtain ⟨k,sz,zero,bt⟩:=d
   cases k <;> simp only [hT,reduceCtorEq] at h
   rename_i fs
   cases hf:fs[f]? with
   | none=>simp [hf] at h
   | some p =>
    obtain ⟨off,t⟩:=p
    cases ht:ty t with
    | none=>simp [hf,ht] at h
    | some fd =>
     simp only [hf,ht,Option.bind_some] at h
     split at h
     ·cases h
     ·rename_i hz
      simp only [Option.map_eq_some_iff] at h
      obtain ⟨v,h1,h2⟩:=h
      subst h2
      exact c7u rfl (hty _ _ hT) rfl hf (hty _ _ ht) hz h1 hp hs hdst _
 | field T x f =>
  simp only [a1x] at h
  cases hT:ty T with
  | none=>simp [hT] at h
  | some d =>
   obtain ⟨k,sz,zero,bt⟩:=d
   cases k <;> simp only [hT,reduceCtorEq] at h
   rename_i fs
   split at h
   ·rename_i fs' _ _ cs e1 ha
    cases e1
    cases hf:fs[f]? with
    | none=>simp [hf] at h
    | some p =>
     obtain ⟨off,t⟩:=p
     cases ht:ty t with
     | none=>simp [hf,ht] at h
     | some fd =>
      simp only [hf,ht,Option.bind_some,Option.map_eq_some_iff] at h
      obtain ⟨v,h1,h2⟩:=h
      subst h2
      exact e8g rfl (hty _ _ hT) rfl hf (hty _ _ ht) ha h1 hp hs hdst _
   ·cases h
 | indexAddr T x i =>
  simp only [a1x] at h
  split at h
  ·rename_i e sz zero bt k n hT hi
   split at h
   ·rename_i m g sz' j len hx
    cases he:ty e with
    | none=>simp [he] at h
    | some ed =>
     simp only [he,Option.bind_some] at h
     split at h
     ·rename_i hsz
      simp only [Option.some.injEq] at h;subst h
      exact d9t rfl (hty _ _ hT) rfl (hty _ _ he) hi hx hsz hp.2.2.1 hp.2.2.2 hp.1 hp.2.1 hs hdst _
     ·cases h
   ·cases hx:rowsOf (s.arg x) with
    | none=>simp [hx] at h
    | some xs =>
     simp only [hx,Option.bind_some,Option.map_eq_some_iff] at h
     obtain ⟨ed,h1,h2⟩:=h
     subst h2
     exact d9u rfl (hty _ _ hT) rfl (hty _ _ h1) hi hx hp.2.2.1 hp.2.2.2.1 hp.2.2.2.2 hp.1 hp.2.1 hs hdst _
  ·rename_i len e sz zero bt k n hT hi
   cases he:ty e with
   | none=>simp [he] at h
   | some ed =>
    simp only [he,Option.bind_some,Option.map_eq_some_iff] at h
    obtain ⟨v,h1,h2⟩:=h
    subst h2
    exact d2a rfl (hty _ _ hT) rfl (hty _ _ he) hi h1 hp.2.2.1 hp.2.2.2 hp.1 hp.2.1 hs hdst _
  ·cases h
 | extract x i =>
  simp only [a1x] at h
  split at h
  ·rename_i vs ha
   simp only [Option.map_eq_some_iff] at h
   obtain ⟨v,h1,h2⟩:=h
   subst h2
   exact d9v rfl ha h1 hp hs hdst _
  ·cases h
 | makeFunc fn first cap=>simp only [a1x,Option.some.injEq] at h;subst h;exact b2d rfl hs hdst _
 | makeMap T rv =>
  cases rv with
  | none=>simp only [a1x,Option.some.injEq] at h;subst h;exact d9n rfl hs hdst _
  | some v=>simp [a1x] at h
 | _=>simp [a1x] at h
end
end Go.Aft
end
section
namespace Go.Aft
def keyOf:LV->Option Value
 | .d (.k v)=>some v
 | .agg cs=>(a4g cs).map fun vs=>.agg vs.toArray
 | _=>none
inductive KK where
 | sc (k:Sc) | ag (ks:List Sc)
def KK.has:KK->Value->Bool
 | .sc k,v=>k.has v
 | .ag ks,.agg vs=>hasAll ks vs.toList
 | _,_=>false
def kEq:Value->Value->Bool
 | .agg x,.agg y=>allEq x.toList y.toList
 | x,y=>scEq x y
def a4e (ty:TypeId->Option TyD) (eqt:TypeId->Option (List Sc)) (t:TypeId):Option KK :=
 match ty t with
 | some ⟨.int k,_,_,_⟩=>some (.sc (.int k))
 | some ⟨.str,_,_,_⟩=>some (.sc .str)
 | some ⟨.bool,_,_,_⟩=>some (.sc .bool)
 | some ⟨.agg _,_,_,_⟩=>(eqt t).map .ag
 | some ⟨.arr _ _,_,_,_⟩=>(eqt t).map .ag
 | _=>none
def a1c (k:Value):List (Value × LV)->Option LV
 | []=>none
 | e :: es=>if kEq k e.1 then some e.2 else a1c k es
def mput (k:Value) (v:LV):List (Value × LV)->List (Value × LV)
 | []=>[(k,v)]
 | e :: es=>if kEq k e.1 then (k,v) :: es else e :: mput k v es
def midx (k:Value):List (Value × LV)->Nat
 | []=>0
 | e :: es=>if kEq k e.1 then 0 else midx k es+1
def mset (j:Nat) (v:LV) (es:List (Value × LV)):List (Value × LV):=es.modify j fun e=>(e.1,v)
def a8t (d:TyD):Option LV:=a2d d (d.zero.map kz)
def minI (x y:Int):Int:=if y < x then y else x
def maxI (x y:Int):Int:=if y > x then y else x
def c0e (ty:TypeId->Option TyD) (s:S) (b:Builtin) (tys:List TypeId) (args:List Operand):Option Res :=
 match b,tys,args with
 | .len,[t],[x] =>
  match ty t with
  | some ⟨.str,_,_,_⟩=>match s.arg x with | .d (.k (.string z))=>some ⟨s.argP x,intV .i64 z.size,.no⟩ | _=>none
  | some ⟨.sl _,_,_,_⟩=>(rowsOf (s.arg x)).map fun xs=>⟨s.argP x,intV .i64 xs.length,.no⟩
  | some ⟨.map _ _,_,_,_⟩=>match s.arg x with
   | .gm n=>match s.H.obj n with | some (.map es)=>some ⟨s.argP x,intV .i64 es.length,.no⟩ | _=>none
   | .d (.k (.map none))=>some ⟨s.argP x,intV .i64 0,.no⟩
   | _=>none
  | _=>none
 | .min,_,[x,y]=>match s.arg x,s.arg y with | .d (.k (.int k m)),.d (.k (.int _ n))=>some ⟨s.argP x/\s.argP y,intV k (minI m n),.no⟩ | _,_=>none
 | .max,_,[x,y]=>match s.arg x,s.arg y with | .d (.k (.int k m)),.d (.k (.int _ n))=>some ⟨s.argP x/\s.argP y,intV k (maxI m n),.no⟩ | _,_=>none
 | .append,[t,t'],[x,y] =>
  if t=t' then
   match ty t with
   | some ⟨.sl e,_,_,_⟩=>(ty e).bind fun ed=>if ed.sz=0 then none else (rowsOf (s.arg y)).bind fun ys =>
    match s.arg x with
    | .osl n xs=>match s.H.obj n with
     | some (.arr e' sz m)=>if e'=e/\sz=ed.sz then some ⟨s.argP x/\s.argP y/\m=xs.length/\(∀ r ∈ xs,r.length=ed.sz)/\(∀ r ∈ ys,r.length=ed.sz)/\(xs.length+ys.length) * ed.bt<=140737488355328/\xs.length+ys.length<=140737488355328,.osl n (xs ++ ys),.a3b n (.arr e sz (xs.length+ys.length))⟩ else none
     | _=>none
    | .d (.k (.slice none 0 0))=>some ⟨s.argP x/\s.argP y/\(∀ r ∈ ys,r.length=ed.sz)/\ys.length * ed.bt<=140737488355328/\ys.length<=140737488355328,.osl s.H.next ys,.newNm (.arr e ed.sz ys.length)⟩
    | _=>none
   | _=>none
  else none
 | _,_,_=>none
def a6c (s:S):Option Operand->Option Int
 | none=>some 0
 | some o=>match s.arg o with | .d (.k (.int _ n))=>some n | _=>none
def a5h (s:S) (len:Nat):Option Operand->Option Int
 | none=>some len
 | some o=>match s.arg o with | .d (.k (.int _ n))=>some n | _=>none
def optP (s:S):Option Operand->Prop
 | none=>True
 | some o=>s.argP o
def byteAt (z:ByteArray) (n:Int):Int:=match z[n.toNat]? with | some b=>b.toNat | none=>0
def b5s (k:TK) (v:Value):Bool:=match k,v with
 | .ptr _,.pointer none=>true
 | .iface _,.nilIface=>true
 | .map _ _,.map none=>true
 | .func,.nilFunc=>true
 | .sl _,.slice none 0 0=>true
 | _,_=>false
def c4y (k:TK) (x:LV):Option Bool:=match k,x with
 | .ptr _,.d (.k (.pointer none))=>some true
 | .ptr _,.lp ..=>some false
 | .ptr _,.gp ..=>some false
 | .ptr _,.ep ..=>some false
 | .iface _,.d (.k .nilIface)=>some true
 | .iface _,.d (.k (.iface ..))=>some false
 | .map _ _,.d (.k (.map none))=>some true
 | .map _ _,.gm _=>some false
 | .func,.d (.k .nilFunc)=>some true
 | .func,.fn ..=>some false
 | .sl _,.d (.k (.slice none 0 0))=>some true
 | .sl _,.d (.sl (_ :: _))=>some false
 | .sl _,.vs ..=>some false
 | _,_=>none
def a9t (ty:TypeId->Option TyD) (s:S) (op:BinOp) (T:TypeId) (x y:Operand):Option Res :=
 match y with
 | .const v=>(ty T).bind fun d=>if b5s d.k v then (c4y d.k (s.arg x)).bind fun b=>(match op with
   | .eql=>some ⟨s.argP x,.d (.k (.bool b)),.no⟩
   | .neq=>some ⟨s.argP x,.d (.k (.bool (!b))),.no⟩
   | _=>none) else none
 | _=>none
def c0d:List (List DV)->Option (List Int)
 | []=>some []
 | [.k (.int .u8 n)] :: r=>(c0d r).map (n :: ·)
 | _ :: _=>none
def strB (ns:List Int):ByteArray:=ns.foldl (fun r n=>r.push (UInt8.ofNat n.toNat)) ByteArray.empty
def opZ (ty:TypeId->Option TyD) (s:S) (op:Op):Option Res :=
 match op with
 | .slice T x lo hi none =>
  match ty T with
  | some ⟨.sl e,_,_,_⟩=>(ty e).bind fun ed=>(rowsOf (s.arg x)).bind fun xs=>(a6c s lo).bind fun l=>(a5h s xs.length hi).map fun h =>
   ⟨s.argP x/\optP s lo/\optP s hi/\0<=l/\l<=h/\h<=xs.length/\(∀ r ∈ xs,r.length=ed.sz),.d (.sl ((xs.take h.toNat).drop l.toNat)),.no⟩
  | _=>none
 | .index T x i=>match ty T,s.arg x,s.arg i with
  | some ⟨.str,_,_,_⟩,.d (.k (.string z)),.d (.k (.int _ n))=>some ⟨s.argP x/\s.argP i/\0<=n/\n < z.size,.d (.k (.int .u8 (byteAt z n))),.no⟩
  | _,_,_=>none
 | .makeInterface T x=>match ty T,s.arg x with
  | some ⟨.iface _,_,_,_⟩,_=>none
  | some _,.d (.k v)=>some ⟨s.argP x,.d (.k (.iface T v)),.no⟩
  | some _,.agg cs=>(a4g cs).map fun vs=>⟨s.argP x,.d (.k (.iface T (.agg vs.toArray))),.no⟩
  | _,_=>none
 | .convert c b x=>match ty c,ty b,s.arg x with
  | some _,some ⟨.int k,_,_,_⟩,.d (.k (.int _ n))=>some ⟨s.argP x,.d (.k (.int k (k.wrap n))),.no⟩
  | some ⟨.sl e,_,_,_⟩,some ⟨.str,_,_,_⟩,.d (.sl xs)=>match ty e with
   | some ⟨.int .u8,_,_,_⟩=>(c0d xs).map fun ns=>⟨s.argP x,.d (.k (.string (strB ns))),.no⟩
   | _=>none
  | _,_,_=>none
 | _=>none
def d8x (ty:TypeId->Option TyD) (s:S) (x:Operand) (aT:TypeId):Option Res :=
 match ty aT,s.arg x with
  | some ⟨.iface _,_,_,_⟩,_=>none
  | some d,.d (.k (.iface t v)) =>
   if t=aT then (match v with
    | .agg vs=>if vs.toList.all Value.oneCell' then some ⟨s.argP x,.tup [.agg (vs.toList.map kz),.d (.k (.bool true))],.no⟩ else none
    | v=>if v.oneCell' then some ⟨s.argP x,.tup [.d (.k v),.d (.k (.bool true))],.no⟩ else none)
   else (a8t d).map fun z=>⟨s.argP x,.tup [z,.d (.k (.bool false))],.no⟩
  | some d,.d (.k .nilIface)=>(a8t d).map fun z=>⟨s.argP x,.tup [z,.d (.k (.bool false))],.no⟩
  | _,_=>none
def a1e (xs:List (List DV)):List LV:=xs.flatten.map .d
def a9g (s:S) (sz:Nat) (x:LV):Option (Prop × Nat × List LV) :=
 match x with
 | .vs n g z i len=>match s.H.obj n with
  | some (.vec _ g' z' cs _)=>if g'=g/\z=sz/\z'=sz then some (i * sz+len * sz<=cs.length,len,(cs.drop (i * sz)).take (len * sz)) else none
  | _=>none
 | x=>(rowsOf x).map fun xs=>(∀ r ∈ xs,r.length=sz,xs.length,a1e xs)
def repL (n:Nat) (xs:List LV):List LV:=(List.replicate n xs).flatten
def a3z (ty:TypeId->Option TyD) (pub:Nat->Kd) (s:S) (dst:Option Nat) (b:Builtin) (tys:List TypeId) (args:List Operand):Option Res :=
 match b,tys,args with
 | .len,[t],[x]=>match ty t,s.arg x with
  | some ⟨.sl _,_,_,_⟩,.vs _ _ _ _ len=>some ⟨s.argP x,intV .i64 len,.no⟩
  | _,_=>none
 | .append,[t,t'],[x,y] =>
  if t=t' then
   match ty t with
   | some ⟨.sl e,_,_,_⟩=>(ty e).bind fun ed=>if ed.sz=0 then none else
    match s.arg x with
    | .d (.k (.slice none 0 0))=>match dst with
     | some d=>if pub d=.vec then (a9g s ed.sz (s.arg y)).map fun p =>
       if p.2.1=0 then ⟨s.argP x/\s.argP y/\p.1,.d (.k (.slice none 0 0)),.no⟩
       else ⟨s.argP x/\s.argP y/\p.1/\nbs s.H.next p.2.2/\p.2.1<=34359738368,.vs s.H.next 0 ed.sz 0 p.2.1,.newNm (.vec e 0 ed.sz p.2.2 false)⟩ else none
     | none=>none
    | .vs n g sz i len=>if sz=ed.sz/\i=0 then match s.H.obj n with
      | some (.vec e' g' sz' cs ex)=>if e'=e/\g'=g/\sz'=sz then (a9g s sz (s.arg y)).map fun p =>
        if p.2.1=0 then ⟨s.argP x/\s.argP y/\p.1,.vs n g sz i len,.no⟩
        else if (len+p.2.1) * sz<=cs.length then ⟨s.argP x/\s.argP y/\p.1/\nbs s.H.next p.2.2,.vs n g sz 0 (len+p.2.1),.a3b n (.vec e g sz (putAt cs (len * sz) p.2.2) ex)⟩
        else ⟨s.argP x/\s.argP y/\p.1/\nbs s.H.next p.2.2/\len * sz<=cs.length/\len+p.2.1<=34359738368,.vs n (g+1) sz 0 (len+p.2.1),.a3b n (.vec e (g+1) sz (cs.take (len * sz) ++ p.2.2) false)⟩
       else none
      | _=>none
     else none
    | _=>none
   | _=>none
  else match ty t,ty t',s.arg x,s.arg y with
   | some ⟨.sl e,_,_,_⟩,some ⟨.int _,_,_,_⟩,.d (.k (.slice none 0 0)),.d (.k (.int .i64 n))=>(ty e).bind fun ed=>if ed.sz=0 then none else
    match dst with
    | some d=>if pub d=.vec then some ⟨s.argP x/\s.argP y/\0 < n/\n<=16777216,.vs s.H.next 0 ed.sz 0 n.toNat,.newNm (.vec e 0 ed.sz (repL n.toNat (ed.zero.map kz)) false)⟩ else none
    | none=>none
   | _,_,_,_=>none
 | .cap,[t],[x]=>match ty t,s.arg x with
  | some ⟨.sl _,_,_,_⟩,.d (.k (.slice none 0 0))=>some ⟨s.argP x,intV .i64 0,.no⟩
  | _,_=>none
 | _,_,_=>none
def mkSl (ty:TypeId->Option TyD) (s:S) (T:TypeId) (l c:Operand):Option Res :=
 match ty T,s.arg l,s.arg c with
 | some ⟨.sl e,_,_,_⟩,.d (.k (.int .i64 n)),.d (.k (.int .i64 m))=>(ty e).bind fun ed=>if ed.sz=0 then none else
  some ⟨s.argP l/\s.argP c/\0<=n/\n<=m/\m<=16777216,.vs s.H.next 0 ed.sz 0 n.toNat,.newNm (.vec e 0 ed.sz (repL m.toNat (ed.zero.map kz)) true)⟩
 | _,_,_=>none
def bsV (ty:TypeId->Option TyD) (pub:Nat->Kd) (s:S) (dst:Option Nat) (T:TypeId) (len:Nat) (parts:Array (Nat × Operand)):Option Res :=
 match dst with
 | none=>none
 | some t=>if pub t=.vec then (match ty T with
  | some ⟨.sl e,_,_,_⟩=>(ty e).bind fun ed =>
   if len=0/\parts.toList=[]/\ed.sz ≠ 0 then some ⟨True,.vs s.H.next 0 ed.sz 0 0,.newNm (.vec e 0 ed.sz [] true)⟩ else
   if parts.toList.map (·.1)=List.range' 0 len/\parts.toList.length=len/\len * ed.sz<=16777216/\len<=16777216/\len ≠ 0/\ed.sz ≠ 0 then
    (c0r (parts.toList.map fun p=>(p.1,s.arg p.2))).map fun rows=>⟨a9d s parts.toList/\(∀ r ∈ rows,r.length=ed.sz),.osl s.H.next rows,.newNm (.arr e ed.sz rows.length)⟩
   else none
  | _=>none) else none
def chunk (es:Nat):Nat->List LV->Option (List (List DV))
 | 0,_=>some []
 | k+1,cs=>(toDs (cs.take es)).bind fun r=>(chunk es k (cs.drop es)).map fun rs=>r :: rs
def slV (ty:TypeId->Option TyD) (s:S) (T:TypeId) (x:Operand) (lo hi:Option Operand):Option Res :=
 match ty T,s.arg x with
 | some ⟨.sl e,_,_,_⟩,.vs n g sz i len=>(ty e).bind fun ed=>if ed.sz=sz then (a6c s lo).bind fun l=>(a5h s len hi).map fun h =>
   ⟨s.argP x/\optP s lo/\optP s hi/\0<=l/\l<=h/\h<=len,.vs n g sz (i+l.toNat) (h.toNat - l.toNat),.no⟩ else none
 | some ⟨.sl e,_,_,_⟩,.d (.k (.slice none 0 0))=>(ty e).bind fun ed=>match lo with
  | none=>(a5h s 0 hi).map fun h=>⟨s.argP x/\optP s hi/\0<=h/\h<=(0:Int),.d (.k (.slice none 0 0)),.no⟩
  | some _=>none
 | some ⟨.arr N e,_,_,_⟩,.gp n off=>(ty e).bind fun ed=>(a6c s lo).bind fun l=>(a5h s N hi).bind fun h =>
   match s.H.obj n with
   | some (.box cs)=>(chunk ed.sz (h.toNat - l.toNat) (cs.drop (off+l.toNat * ed.sz))).map fun rows =>
    ⟨s.argP x/\optP s lo/\optP s hi/\0<=l/\l<=h/\h<=N/\N<=16777216/\off+N * ed.sz<=cs.length,.d (.sl rows),.a3b n (.fz cs)⟩
   | some (.fz cs)=>(chunk ed.sz (h.toNat - l.toNat) (cs.drop (off+l.toNat * ed.sz))).map fun rows =>
    ⟨s.argP x/\optP s lo/\optP s hi/\0<=l/\l<=h/\h<=N/\N<=16777216/\off+N * ed.sz<=cs.length,.d (.sl rows),.no⟩
   | _=>none
 | _,_=>none
def opX (ty:TypeId->Option TyD) (eqt:TypeId->Option (List Sc)) (pub:Nat->Kd) (s:S) (dst:Option Nat) (op:Op):Option Res :=
 match op with
 | .call ⟨.builtin b,args,tys⟩=>(a3z ty pub s dst b tys.toList args.toList).or (c0e ty s b tys.toList args.toList)
 | .makeSlice T l c=>mkSl ty s T l c
 | .slice T x lo hi none=>(slV ty s T x lo hi).or (opZ ty s op)
 | .lookup T m k ok =>
  match ty T with
  | some ⟨.map kt et,_,_,_⟩=>(a4e ty eqt kt).bind fun kk=>(ty et).bind fun ed=>(a8t ed).bind fun z=>(keyOf (s.arg k)).bind fun key =>
   match s.arg m with
   | .gm n=>match s.H.obj n with
    | some (.map es)=>some ⟨s.argP m/\s.argP k/\kk.has key=true/\es.all (fun e=>kk.has e.1)=true,
      if ok then .tup [(a1c key es).getD z,.d (.k (.bool (a1c key es).isSome))] else (a1c key es).getD z,.no⟩
    | _=>none
   | .d (.k (.map none))=>some ⟨s.argP m/\s.argP k/\kk.has key=true,if ok then .tup [z,.d (.k (.bool false))] else z,.no⟩
   | _=>none
  | _=>none
 | .mapUpdate T m k v | .insert T m k v =>
  match ty T,s.arg m with
  | some ⟨.map kt et,_,_,_⟩,.gm n=>(a4e ty eqt kt).bind fun kk=>(keyOf (s.arg k)).bind fun key =>
   match s.H.obj n with
   | some (.map es)=>some ⟨s.argP m/\s.argP k/\s.argP v/\kk.has key=true/\es.all (fun e=>kk.has e.1)=true/\(s.arg v).nb s.H.next,.any,.a3b n (.map (mput key (s.arg v) es))⟩
   | _=>none
  | _,_=>none
 | .mapEntry T m k =>
  match ty T,s.arg m with
  | some ⟨.map kt et,_,_,_⟩,.gm n=>(a4e ty eqt kt).bind fun kk=>(ty et).bind fun ed=>(a8t ed).bind fun z=>(keyOf (s.arg k)).bind fun key =>
   match s.H.obj n with
   | some (.map es)=>some ⟨s.argP m/\s.argP k/\kk.has key=true/\es.all (fun e=>kk.has e.1)=true,.tup [(a1c key es).getD z,.d (.k (.int .i64 (midx key es)))],.a3b n (.map (mput key ((a1c key es).getD z) es))⟩
   | _=>none
  | _,_=>none
 | .entryStore T m t v =>
  match s.arg m,s.arg t with
  | .gm n,.d (.k (.int _ j))=>match s.H.obj n with
   | some (.map es)=>some ⟨s.argP m/\s.argP t/\s.argP v/\0<=j/\j < es.length/\(s.arg v).nb s.H.next,.any,.a3b n (.map (mset j.toNat (s.arg v) es))⟩
   | _=>none
  | _,_=>none
 | .slice .. | .index .. | .makeInterface .. | .convert ..=>opZ ty s op
 | .typeAssert x _ aT true=>d8x ty s x aT
 | .binOp bo T x y yT=>(a9t ty s bo T x y).or (a1x ty eqt pub s dst (.binOp bo T x y yT))
 | op=>a1x ty eqt pub s dst op
end Go.Aft
end
