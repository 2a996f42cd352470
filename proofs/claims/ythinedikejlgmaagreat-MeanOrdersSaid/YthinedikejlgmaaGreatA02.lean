import Derived.Test.YthinedikejlgmaaGreatA01
set_option linter.all false
namespace Go.Aft
section
variable {E:Ent} {G:Gh} {lm:Nat->Option Nat} {L:Nat->Option (List LV)} {H:GH} {w:World}
theorem MR.a5d {G':Gh} {nx':Nat} {w':World} (h:MR G lm L H w) (hn:H.next<=nx') (hle:G.le H.next G') (hob:∀ b k,G.own b=.loc k->G'.own b=.loc k/\w'.heap[b]?=w.heap[b]?) :
  ∀ k cs,L k=some cs->∃ b vs,lm k=some b/\G'.own b=.loc k/\b0j w' b vs/\LRs G' nx' lm cs vs:=by
 intro k cs hk
 obtain ⟨b,vs,h1,h2,h3,h4⟩:=h.loc k cs hk
 have q:=hob b k h2
 exact ⟨b,vs,h1,q.1,a3j q.2 h3,a1d hn hle (fun _ _ e=>e) _ _ h4⟩
def GH.add (H:GH) (o:GO):GH:={ obj:=upd H.obj H.next (some o),next:=H.next+1 }
def GH.set (H:GH) (n:Nat) (o:GO):GH:={ H with obj:=upd H.obj n (some o) }
theorem GH.a0a (H:GH) (o:GO):(H.add o).next=H.next+1:=rfl
theorem GH.a0l (H:GH) (n:Nat) (o:GO):(H.set n o).next=H.next:=rfl
theorem GH.a0b (H:GH) (o:GO) (x:Nat):(H.add o).obj x=if x=H.next then some o else H.obj x:=rfl
theorem GH.a0f (H:GH) (n:Nat) (o:GO) (x:Nat):(H.set n o).obj x=if x=n then some o else H.obj x:=rfl
def nmG (G:Gh) (n b:Nat):Gh:={ G with own:=fun x=>if x=b then .nm n else G.own x,nm:=upd G.nm n b }
theorem b8m (n b:Nat):G.le n (nmG G n b):=⟨Mem.le_refl _,fun x hx=>upd_ne _ _ (by omega),fun _ _=>⟨Nat.le_refl _,fun _=>rfl⟩⟩
theorem MR.c0h (h:MR G lm L H w) (o:GO) (ob:Obj) (hna:∀ e sz m,o ≠ .arr e sz m)
  (ho:OR (nmG G H.next w.heap.size) (H.next+1) (w.alloc ob) H.next o):MR (nmG G H.next w.heap.size) lm L (H.add o) (w.alloc ob):=by
 have hle:=b8m (G:=G) H.next w.heap.size
 have hold:∀ b,b < w.heap.size->(w.alloc ob).heap[b]?=w.heap[b]?:=fun b hb=>by rw [a1t,if_neg (by omega)]
 have hown:∀ b,b < w.heap.size->(nmG G H.next w.heap.size).own b=G.own b:=fun b hb=>by
  have:b ≠ w.heap.size:=by omega
  simp [nmG,this]
 refine ⟨fun b o v hv=>?_,fun b o v hv=>?_,fun b hb=>?_,h.lmL,?_,fun n o' hn=>?_⟩
 ·have hc:=h.imm b o v hv
  rw [a2t (hold b (cell_lt hc))];exact hc
 ·have hlt:=cell_lt (h.imm b o v hv)
  rw [hown b hlt]
  rcases h.immOwn b o v hv with q | ⟨n,e,sz,m,q1,q2,q3⟩
  ·exact .inl q
  ·refine .inr (⟨n,e,sz,m,q1,?_,q3⟩)
   have:=(h.nmd n _ q2).1
   rw [GH.a0b,if_neg (by omega)];exact q2
 ·simp at hb
  refine ⟨?_,(h.fresh b (by omega)).2⟩
  have:b ≠ w.heap.size:=by omega
  simp only [nmG,this,if_false]
  exact (h.fresh b (by omega)).1
 ·exact h.a5d (Nat.le_succ _) hle fun b k hb=>by
   have hlt:=own_lt h (b:=b) (by rw [hb];simp)
   exact ⟨(hown b hlt).trans hb,hold b hlt⟩
 ·rw [GH.a0b] at hn
  by_cases e:n=H.next
  ·subst e
   simp at hn;subst hn
   exact ⟨Nat.lt_succ_self _,ho⟩
  ·rw [if_neg e] at hn
   obtain ⟨h1,h2⟩:=h.nmd n o' hn
   refine ⟨Nat.lt_succ_of_lt h1,a3l (Nat.le_succ _) h1 hle h2 ⟨rfl,rfl⟩ fun b hb=>?_⟩
   have hlt:=own_lt h (b:=b) (by rw [hb];simp)
   exact ⟨(hown b hlt).trans hb,hold b hlt,fun _ _ q=>q⟩
theorem Ext.c0h (h:Ext E G H w) (hM:MR G lm L H w) (o:GO) (ob:Obj):Ext E (nmG G H.next w.heap.size) (H.add o) (w.alloc ob) :=
 h.alloc (b8m _ _) (Nat.le_succ _) (fun b hb=>by
  have:b ≠ w.heap.size:=by omega
  simp [nmG,this]) ob
theorem MR.b4f (h:MR G lm L H w) (n b0:Nat) {old:GO} (hn:H.obj n=some old) (o:GO) (ob:Obj) (hown:G.own (b0)=.nm n) (hna:∀ e sz m,old ≠ .arr e sz m) (hna':∀ e sz m,o ≠ .arr e sz m)
  (ho:OR G H.next (setB w (b0) ob) n o):MR G lm L (H.set n o) (setB w (b0) ob):=by
 have hlt:=own_lt h (b:=b0) (by rw [hown];simp)
 have hold:∀ x,G.own x ≠ .nm n->(setB w (b0) ob).heap[x]?=w.heap[x]?:=fun x hx=>by
  have:x ≠ b0:=fun e=>hx (by rw [e];exact hown)
  rw [a2j,if_neg (by simp [this])]
 have himm:∀ b o v,G.M b o=some v->G.own b ≠ .nm n:=fun b o v hv q=>by
  rcases h.immOwn b o v hv with q' | ⟨n',e,sz,m,q1,q2,q3⟩
  ·rw [q] at q';cases q'
  ·rw [q] at q1;cases q1;rw [hn] at q2;exact hna _ _ _ (Option.some.inj q2)
 refine ⟨fun b o v hv=>?_,fun b o v hv=>?_,fun b hb=>h.fresh b (by rw [b2u] at hb;exact hb),h.lmL,?_,fun j o' hj=>?_⟩
 ·rw [a2t (hold b (himm b o v hv))];exact h.imm b o v hv
 ·rcases h.immOwn b o v hv with q | ⟨n',e,sz,m,q1,q2,q3⟩
  ·exact .inl q
  ·refine .inr (⟨n',e,sz,m,q1,?_,q3⟩)
   have:n' ≠ n:=fun e'=>by subst e';rw [hn] at q2;exact hna _ _ _ (Option.some.inj q2)
   rw [GH.a0f,if_neg this];exact q2
 ·exact h.a5d (Nat.le_refl _) (Gh.le_refl _ _) fun b k hb=>⟨hb,hold b (by rw [hb];simp)⟩
 ·rw [GH.a0f] at hj
  by_cases e:j=n
  ·subst e
   simp at hj;subst hj
   exact ⟨(h.nmd _ _ hn).1,ho⟩
  ·rw [if_neg e] at hj
   obtain ⟨h1,h2⟩:=h.nmd j o' hj
   exact ⟨h1,a3l (Nat.le_refl _) h1 (Gh.le_refl _ _) h2 ⟨rfl,rfl⟩ fun x hx=>⟨hx,hold x (by rw [hx];simp [e]),fun _ _ q=>q⟩⟩
theorem MR.a3b (h:MR G lm L H w) (n:Nat) {old:GO} (hn:H.obj n=some old) (o:GO) (ob:Obj) (hown:G.own (G.nm n)=.nm n) (hna:∀ e sz m,old ≠ .arr e sz m) (hna':∀ e sz m,o ≠ .arr e sz m)
  (ho:OR G H.next (setB w (G.nm n) ob) n o):MR G lm L (H.set n o) (setB w (G.nm n) ob):=h.b4f n (G.nm n) hn o ob hown hna hna' ho
theorem Ext.b4f (h:Ext E G H w) (n b0:Nat) (o:GO) (ob:Obj) (hown:G.own b0=.nm n):Ext E G (H.set n o) (Aft.setB w b0 ob) :=
 Ext.setB h (H':=H.set n o) (b:=b0) (Gh.le_refl _ _) (Nat.le_refl _) (fun _=>rfl) (fun hx=>by
  have:=h.own _ hx
  rw [hown] at this
  rcases this with q | ⟨⟨m,q⟩,q'⟩
  ·rw [<- q];simp
  ·cases q') ob
theorem Ext.a3b (h:Ext E G H w) (hM:MR G lm L H w) (n:Nat) (o:GO) (ob:Obj) (hown:G.own (G.nm n)=.nm n):Ext E G (H.set n o) (Aft.setB w (G.nm n) ob) :=
 Ext.setB h (H':=H.set n o) (b:=G.nm n) (Gh.le_refl _ _) (Nat.le_refl _) (fun _=>rfl) (fun hx=>by
  have:=h.own _ hx
  rw [hown] at this
  rcases this with q | ⟨⟨m,q⟩,q'⟩
  ·rw [<- q];simp
  ·cases q') ob
def GH.del (H:GH) (n:Nat):GH:={ H with obj:=upd H.obj n none }
theorem GH.e9v (H:GH) (n:Nat):(H.del n).next=H.next:=rfl
theorem GH.b0g (H:GH) (n x:Nat):(H.del n).obj x=if x=n then none else H.obj x:=rfl
theorem MR.f3y (h:MR G lm L H w) (n:Nat) {old:GO} (hn:H.obj n=some old) (ob:Obj) (hown:G.own (G.nm n)=.nm n) (hna:∀ e sz m,old ≠ .arr e sz m):MR G lm L (H.del n) (setB w (G.nm n) ob):=by
 have hlt:=own_lt h (b:=G.nm n) (by rw [hown];simp)
 have hold:∀ x,G.own x ≠ .nm n->(setB w (G.nm n) ob).heap[x]?=w.heap[x]?:=fun x hx=>by
  have:x ≠ G.nm n:=fun e=>hx (by rw [e];exact hown)
  rw [a2j,if_neg (by simp [this])]
 have himm:∀ b o v,G.M b o=some v->G.own b ≠ .nm n:=fun b o v hv q=>by
  rcases h.immOwn b o v hv with q' | ⟨n',e,sz,m,q1,q2,q3⟩
  ·rw [q] at q';cases q'
  ·rw [q] at q1;cases q1;rw [hn] at q2;exact hna _ _ _ (Option.some.inj q2)
 refine ⟨fun b o v hv=>?_,fun b o v hv=>?_,fun b hb=>h.fresh b (by rw [b2u] at hb;exact hb),h.lmL,?_,fun j o' hj=>?_⟩
 ·rw [a2t (hold b (himm b o v hv))];exact h.imm b o v hv
 ·rcases h.immOwn b o v hv with q | ⟨n',e,sz,m,q1,q2,q3⟩
  ·exact .inl q
  ·refine .inr (⟨n',e,sz,m,q1,?_,q3⟩)
   have:n' ≠ n:=fun e'=>by subst e';rw [hn] at q2;exact hna _ _ _ (Option.some.inj q2)
   rw [GH.b0g,if_neg this];exact q2
 ·exact h.a5d (Nat.le_refl _) (Gh.le_refl _ _) fun b k hb=>⟨hb,hold b (by rw [hb];simp)⟩
 ·rw [GH.b0g] at hj
  by_cases e:j=n
  ·rw [if_pos e] at hj;cases hj
  ·rw [if_neg e] at hj
   obtain ⟨h1,h2⟩:=h.nmd j o' hj
   exact ⟨h1,a3l (Nat.le_refl _) h1 (Gh.le_refl _ _) h2 ⟨rfl,rfl⟩ fun x hx=>⟨hx,hold x (by rw [hx];simp [e]),fun _ _ q=>q⟩⟩
theorem Ext.f3y (h:Ext E G H w) (n:Nat) (ob:Obj) (hown:G.own (G.nm n)=.nm n):Ext E G (H.del n) (Aft.setB w (G.nm n) ob) :=
 Ext.setB h (H':=H.del n) (b:=G.nm n) (Gh.le_refl _ _) (Nat.le_refl _) (fun _=>rfl) (fun hx=>by
  have:=h.own _ hx
  rw [hown] at this
  rcases this with q | ⟨⟨m,q⟩,q'⟩
  ·rw [<- q];simp
  ·cases q') ob
def arrG (G:Gh) (n:Nat) (v:Value) (m:Nat):Gh:={ G with av:=upd G.av n v,tip:=upd G.tip n m }
theorem d4c (n:Nat) (v:Value) (m:Nat):G.le n (arrG G n v m):=⟨Mem.le_refl _,fun _ _=>rfl,fun x hx=>by
 have:x ≠ n:=by omega
 simp [arrG,upd_ne _ _ this]⟩
theorem MR.f2a (h:MR G lm L H w) (e:TypeId) (sz:Nat) (hsz:0 < sz):MR (arrG G H.next (.slice none 0 0) 0) lm L (H.add (.arr e sz 0)) w:=by
 have hle:=d4c (G:=G) H.next (.slice none 0 0) 0
 refine ⟨h.imm,fun b o v hv=>?_,h.fresh,h.lmL,h.a5d (Nat.le_succ _) hle fun b k hb=>⟨hb,rfl⟩,fun n o hn=>?_⟩
 ·rcases h.immOwn b o v hv with q | ⟨n,e',sz',m,q1,q2,q3⟩
  ·exact .inl q
  ·have hlt:=(h.nmd n _ q2).1
   refine .inr (⟨n,e',sz',m,q1,?_,?_⟩)
   ·rw [GH.a0b,if_neg (by omega)];exact q2
   ·simp only [arrG];rw [upd_ne _ _ (by omega)];exact q3
 ·rw [GH.a0b] at hn
  by_cases e1:n=H.next
  ·subst e1
   simp at hn;subst hn
   refine ⟨Nat.lt_succ_self _,by simp [arrG],hsz,[],?_,by simp,?_⟩
   ·simp only [arrG,upd_same];exact ⟨by simp,.inl ⟨rfl,rfl⟩⟩
   ·intro b hb;simp [arrG,Value.ownBlock] at hb
  ·rw [if_neg e1] at hn
   obtain ⟨h1,h2⟩:=h.nmd n o hn
   refine ⟨Nat.lt_succ_of_lt h1,a3l (Nat.le_succ _) h1 hle h2 ?_ fun b hb=>⟨hb,rfl,fun _ _ q=>q⟩⟩
   simp only [arrG];rw [upd_ne _ _ e1,upd_ne _ _ e1];exact ⟨rfl,rfl⟩
def appG (G:Gh) (n:Nat) (v':Value) (m':Nat) (cells:List Value):Gh where
 M:=fun b o=>if v'.ownBlock=some b then (match cells[o]? with | some u=>some u | none=>G.M b o) else G.M b o
 own:=fun b=>if v'.ownBlock=some b then .nm n else if (G.av n).ownBlock=some b then .none else G.own b
 nm:=G.nm
 av:=upd G.av n v'
 tip:=upd G.tip n m'
theorem MR.append (h:MR G lm L H w) (n:Nat) {e:TypeId} {sz m m':Nat} (hn:H.obj n=some (.arr e sz m)) (hm:m < m') {w':World} {v':Value} {cells news:List Value}
  (hrow:w.ownsRow 0 e sz (G.av n) m cells) (hrow':w'.ownsRow 0 e sz v' m' (cells ++ news)) (h1:∀ v ∈ cells ++ news,v.oneCell'=true)
  (hat:(v'.ownBlock=(G.av n).ownBlock/\GrownD w w' (G.av n).ownBlock) \/ (v'.ownBlock=some w.heap.size/\GrownD w w' none)) :
  MR (appG G n v' m' (cells ++ news)) lm L (H.set n (.arr e sz m')) w'/\G.le H.next (appG G n v' m' (cells ++ news)) /\
  (∀ b,b < w.heap.size->(appG G n v' m' (cells ++ news)).own b=G.own b \/ (∃ j,G.own b=.nm j)/\(appG G n v' m' (cells ++ news)).own b=.none) /\
  (∀ b,b < w.heap.size->G.own b ≠ .nm n->w'.heap[b]?=w.heap[b]?)/\w.heap.size<=w'.heap.size /\
  ∃ b',v'.ownBlock=some b'/\∀ o,o < (cells ++ news).length->(appG G n v' m' (cells ++ news)).M b' o=(cells ++ news)[o]?:=by
 obtain ⟨hlt,htip,hsz,cells0,hrow0,hone0,hblk⟩:=h.nmd n _ hn
 obtain ⟨b',hb',hcell'⟩:∃ b',v'.ownBlock=some b'/\∀ o,o < (cells ++ news).length->w'.cell? ⟨b',o,none⟩=(cells ++ news)[o]?:=by
  rcases hrow'.2 with ⟨rfl,q⟩ | ⟨g,cap,cur,rfl,_⟩
  ·omega
  ·exact ⟨g,rfl,fun o ho=>hrow'.cellAt o (by have:=hrow'.1;omega)⟩
 have hlt':b' < w'.heap.size:=c2c hrow' hb'
 have hsize:w.heap.size<=w'.heap.size:=by rcases hat with ⟨_,q⟩ | ⟨_,q⟩ <;> exact q.size
 have hold:∀ x,x < w.heap.size->v'.ownBlock ≠ some x->w'.heap[x]?=w.heap[x]?:=fun x hx hne=>by
  rcases hat with ⟨q1,q2⟩ | ⟨q1,q2⟩
  ·exact q2.block x hx (fun e=>hne (by rw [q1];exact e.symm))
  ·exact q2.block x hx (by simp)
 have hcells:cells=cells0:=by
  rcases hrow.2 with ⟨q1,q2⟩ | ⟨g,cap,cur,q1,_,q3,_,_,_,q4⟩
  ·have a1:=hrow.1;have a2:=hrow0.1
   rw [q2] at a1 a2;simp at a1 a2;rw [a1,a2]
  ·rcases hrow0.2 with ⟨p1,p2⟩ | ⟨g',cap',cur',p1,_,p3,_,_,_,p4⟩
   ·rw [q1] at p1;cases p1
   ·rw [q1] at p1;cases p1;rw [q3] at p3;cases p3;rw [<- q4,<- p4]
 subst hcells
 have hM:∀ o u,G.M b' o=some u->(cells ++ news)[o]?=some u:=by
  intro o u hu
  rcases hat with ⟨q,_⟩ | ⟨q,_⟩
  ·rw [q] at hb'
   have:=(hblk b' hb').2 o u hu
   rw [List.getElem?_append_left (List.getElem?_eq_some_iff.1 this).1];exact this
  ·rw [q] at hb';cases hb'
   rw [(h.fresh _ (Nat.le_refl _)).2 o] at hu;cases hu
 have hMeq:∀ o,(appG G n v' m' (cells ++ news)).M b' o=(cells ++ news)[o]?:=fun o=>by
  simp only [appG,hb',if_true]
  cases hc:(cells ++ news)[o]? with
  | some u=>rfl
  | none =>
   cases hu:G.M b' o with
   | none=>rfl
   | some u=>rw [hM o u hu] at hc;cases hc
 have hMne:∀ b o,b ≠ b'->(appG G n v' m' (cells ++ news)).M b o=G.M b o:=fun b o hb=>by
  have:v'.ownBlock ≠ some b:=fun e=>by rw [hb'] at e;exact hb (Option.some.inj e).symm
  simp only [appG,if_neg this]
 have hMle:G.M.le (appG G n v' m' (cells ++ news)).M:=by
  intro b o u hu
  by_cases e:b=b'
  ·subst e;rw [hMeq];exact hM o u hu
  ·rw [hMne b o e];exact hu
 have hle:G.le H.next (appG G n v' m' (cells ++ news)):=⟨hMle,fun _ _=>rfl,fun j hj=>by
  simp only [appG]
  by_cases e:j=n
  ·subst e;simp;omega
  ·rw [upd_ne _ _ e,upd_ne _ _ e];exact ⟨Nat.le_refl _,fun _=>rfl⟩⟩
 have hnotb:∀ b,b < w.heap.size->G.own b ≠ .nm n->v'.ownBlock ≠ some b:=fun b hb hne e=>by
  rcases hat with ⟨q,_⟩ | ⟨q,_⟩
  ·rw [q] at e;exact hne (hblk b e).1
  ·rw [q] at e;cases e;omega
 have hnota:∀ b,G.own b ≠ .nm n->(G.av n).ownBlock ≠ some b:=fun b hne e=>hne (hblk b e).1
 have hownE:∀ b,b < w.heap.size->G.own b ≠ .nm n->(appG G n v' m' (cells ++ news)).own b=G.own b:=fun b hb hne=>by
  simp only [appG];rw [if_neg (hnotb b hb hne),if_neg (hnota b hne)]
 have hkeep:∀ b,b < w.heap.size->G.own b ≠ .nm n->w'.heap[b]?=w.heap[b]?:=fun b hb hne=>hold b hb (hnotb b hb hne)
 refine ⟨⟨fun b o u hu=>?_,fun b o u hu=>?_,fun b hb=>?_,h.lmL,?_,fun j o hj=>?_⟩,hle,fun b hb=>?_,hkeep,hsize,b',hb',fun o _=>hMeq o⟩
 ·by_cases e:b=b'
  ·subst e
   rw [hMeq] at hu
   rw [hcell' o (List.getElem?_eq_some_iff.1 hu).1];exact hu
  ·rw [hMne b o e] at hu
   have hc:=h.imm b o u hu
   rw [a2t (hold b (cell_lt hc) (fun q=>by rw [hb'] at q;exact e (Option.some.inj q).symm))];exact hc
 ·by_cases e:b=b'
  ·subst e
   refine .inr (⟨n,e,sz,m',?_,?_,?_⟩)
   ·simp only [appG,if_pos hb']
   ·rw [GH.a0f,if_pos rfl]
   ·simp only [appG,upd_same];exact hb'
  ·rw [hMne b o e] at hu
   have hbl:=cell_lt (h.imm b o u hu)
   have hvb:v'.ownBlock ≠ some b:=fun q=>by rw [hb'] at q;exact e (Option.some.inj q).symm
   by_cases e2:(G.av n).ownBlock=some b
   ·refine .inl ?_
    simp only [appG];rw [if_neg hvb,if_pos e2]
   ·have ho:(appG G n v' m' (cells ++ news)).own b=G.own b:=by simp only [appG];rw [if_neg hvb,if_neg e2]
    rw [ho]
    rcases h.immOwn b o u hu with q | ⟨j,e',sz',k,q1,q2,q3⟩
    ·exact .inl q
    ·have hj:j ≠ n:=fun e3=>by subst e3;exact e2 q3
     refine .inr (⟨j,e',sz',k,q1,?_,?_⟩)
     ·rw [GH.a0f,if_neg hj];exact q2
     ·simp only [appG];rw [upd_ne _ _ hj];exact q3
 ·have hb2:w.heap.size<=b:=by omega
  have hvb:v'.ownBlock ≠ some b:=fun q=>by rw [hb'] at q;have:=Option.some.inj q;omega
  have hne:b ≠ b':=fun e=>by omega
  have hna:(G.av n).ownBlock ≠ some b:=fun q=>by have:=c2c hrow q;omega
  refine ⟨?_,fun o=>?_⟩
  ·simp only [appG];rw [if_neg hvb,if_neg hna];exact (h.fresh b hb2).1
  ·rw [hMne b o hne];exact (h.fresh b hb2).2 o
 ·refine MR.a5d h (Nat.le_refl _) hle fun b k hb=>?_
  have hlt2:=own_lt h (b:=b) (by rw [hb];simp)
  have hne:G.own b ≠ .nm n:=by rw [hb];simp
  exact ⟨(hownE b hlt2 hne).trans hb,hkeep b hlt2 hne⟩
 ·rw [GH.a0f] at hj
  by_cases e1:j=n
  ·subst e1
   simp at hj;subst hj
   refine ⟨hlt,by simp [appG],hsz,cells ++ news,?_,h1,fun b hb=>?_⟩
   ·simp only [appG,upd_same];exact hrow'
   ·simp only [appG,upd_same] at hb
    refine ⟨by simp only [appG,if_pos hb],fun o u hu=>?_⟩
    rw [hb'] at hb;cases hb
    rw [<- hMeq];exact hu
  ·rw [if_neg e1] at hj
   obtain ⟨g1,g2⟩:=h.nmd j o hj
   refine ⟨g1,a3l (Nat.le_refl _) g1 hle g2 ?_ fun b hb=>?_⟩
   ·simp only [appG];rw [upd_ne _ _ e1,upd_ne _ _ e1];exact ⟨rfl,rfl⟩
   ·have hlt2:=own_lt h (b:=b) (by rw [hb];simp)
    have hne:G.own b ≠ .nm n:=by rw [hb];simp [e1]
    refine ⟨(hownE b hlt2 hne).trans hb,hkeep b hlt2 hne,fun o u hu=>?_⟩
    have:b ≠ b':=fun e=>by subst e;exact hnotb b hlt2 hne hb'
    rw [hMne b o this] at hu;exact hu
 ·simp only [appG]
  by_cases e:v'.ownBlock=some b
  ·rw [if_pos e]
   rcases hat with ⟨q,_⟩ | ⟨q,_⟩
   ·rw [q] at e;exact .inl (hblk b e).1.symm
   ·rw [q] at e;cases e;omega
  ·rw [if_neg e]
   by_cases e2:(G.av n).ownBlock=some b
   ·rw [if_pos e2];exact .inr ⟨⟨n,(hblk b e2).1⟩,rfl⟩
   ·rw [if_neg e2];exact .inl rfl
theorem b4h {P:Program} (t ty e:TypeId) (i:TypeInfo) (z:Value) (ht:P.underlying t=some (.slice e)) (hi:P.info? e=some i) (hz:i.zero=some z)
  (hzs:z.cells.size=i.size) (hsz:0 < i.size) (v:Value) (n:Nat) (xs:List Value) (hown:w.ownsRow 0 e i.size v n xs)
  (a:Addr) (m c:Nat) (news:List Value) (hl:news.length=m * i.size) (hnews:∀ j u,news[j]?=some u->w.cell? (a.add j)=some u) (h1:∀ u ∈ news,u.oneCell'=true)
  (h63:n+m<=maxLen) (hbytes:(n+m) * i.bytes<=140737488355328) (hm:0 < m) :
  ∃ v' w',(Builtin.append_ #[t,t] ty #[v,.slice (some a) m c]).run P w=.ok v' w'/\w'.ownsRow 0 e i.size v' (n+m) (xs ++ news) /\
   ((v'.ownBlock=v.ownBlock/\GrownD w w' v.ownBlock) \/ (v'.ownBlock=some w.heap.size/\GrownD w w' none)):=by
 have hsmall:n+m<=9223372036854775807:=by simp only [maxLen] at h63;omega
 have hlen:(xs ++ news).length=(n+m) * i.size:=by rw [List.length_append,hown.1,hl,Nat.add_mul]
 have grown:∀ (old:Nat),old < n+m ->
   (w.drew.alloc (.cells (xs.toArray ++ news.toArray ++ Builtin.zeroCells z.cells (grownCap w (n+m) old e - (n+m))) e)).ownsRow 0 e i.size
    (.slice (some ⟨w.heap.size,0,none⟩) (n+m) (grownCap w (n+m) old e)) (n+m) (xs ++ news) /\
   GrownD w (w.drew.alloc (.cells (xs.toArray ++ news.toArray ++ Builtin.zeroCells z.cells (grownCap w (n+m) old e - (n+m))) e)) none:=by
  intro old ho
  have hge:=grownCap_ge w (n+m) old e
  have hcm:grownCap w (n+m) old e<=maxLen:=grownCap_le_maxLen w (n+m) old e h63
  refine ⟨⟨hlen,.inr ⟨w.heap.size,_,_,rfl,Nat.zero_le _,heap_alloc_new w.drew _,hge,hcm,?_,?_⟩⟩,⟨rfl,rfl,rfl,by simp,fun k hk _=>heap_alloc_old w.drew _ hk⟩,Nat.le_succ _⟩
  ·simp only [Array.size_append,List.size_toArray,size_zeroCells,hzs,hown.1,hl,<- Nat.add_mul]
   congr 1
   omega
  ·simp only [Array.toList_append,List.append_assoc]
   rw [<- List.append_assoc,<- hlen]
   exact List.take_left
 rcases hown.2 with ⟨rfl,rfl⟩ | ⟨g,cap,cur,rfl,hbg,hg,hnc,hcm,hcs,htake⟩
 ·have hx:xs=[]:=List.eq_nil_of_length_eq_zero (by simpa using hown.1)
  subst hx
  have hr:=run_append_nil (P:=P) w t ty e i z ht hi hz a m c news hl hnews (by omega) (by omega) (by have hb:=hbytes;simp only [Nat.zero_add] at hb;omega)
  have hgr:=grown 0 (by omega)
  simp only [Nat.zero_add,List.nil_append,Array.empty_append] at hgr |-
  exact ⟨_,_,hr,hgr.1,.inr ⟨rfl,hgr.2⟩⟩
 ·by_cases hroom:n+m<=cap
  ·have hfit:n * i.size+news.length<=cur.size:=by rw [hl,hcs,<- Nat.add_mul];exact Nat.mul_le_mul_right _ hroom
   have hr:=run_append_room (P:=P) w t ty e i ht hi g n cap cur hg a m c news hl hnews h1 hroom hfit
   refine ⟨_,_,hr,⟨hlen,.inr ⟨g,cap,_,rfl,hbg,setRow_heap w g cur _ e _ hg,hroom,hcm,?_,?_⟩⟩,.inl ⟨rfl,⟨rfl,rfl,rfl,by simp,fun k _ hk=>setRow_other w g k _ (fun e=>hk (by simp [Value.ownBlock,e]))⟩,Nat.le_refl _⟩⟩
   ·simp only [List.size_toArray,List.length_append,List.length_take,List.length_drop,Array.length_toList]
    omega
   ·rw [htake,<- hlen]
    exact List.take_left
  ·have holds:∀ j u,xs[j]?=some u->w.cell? ((⟨g,0,none⟩:Addr).add j)=some u:=hown.cells (g:=g) rfl
   have hr:=run_append_grow (P:=P) w t ty e i z ht hi hz ⟨g,0,none⟩ n cap xs hown.1 holds a m c news hl hnews (by omega) (by omega) (growslice_fits (by omega) hbytes)
   have hgr:=grown cap (by omega)
   exact ⟨_,_,hr,hgr.1,.inr ⟨rfl,hgr.2⟩⟩
end
end Go.Aft
