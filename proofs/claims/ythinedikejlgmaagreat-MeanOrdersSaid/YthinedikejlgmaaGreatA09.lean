import Derived.Test.YthinedikejlgmaaGreatA08
set_option linter.all false
namespace Go.Aft
section
variable {P:Program} {ty:TypeId->Option TyD} {eqt:TypeId->Option (List Sc)} {pub:Nat->Kd} {E:Ent} {s:S} {a:Act} {w:World} {o:Oper} {r:Res}
def a6f (k:Value):List MapEntry->Nat->Option (Nat × Value)
 | [],_=>none
 | e :: es,i=>if kEq k e.key then some (i,e.val) else a6f k es (i+1)
theorem e2g {k:Sc} {a b:Value} (ha:k.has a=true) (hb:k.has b=true) (h:scEq a b=true):a=b:=by
 cases k <;> cases a <;> simp [Sc.has] at ha <;> cases b <;> simp [Sc.has] at hb <;> simp [scEq] at h
 ·subst ha;subst hb;subst h;rfl
 ·subst h;rfl
 ·subst h;rfl
theorem d7s:∀ {ks:List Sc} {xs ys:List Value},hasAll ks xs=true->hasAll ks ys=true->allEq xs ys=true->xs=ys
 | [],[],[],_,_,_=>rfl
 | [],_ :: _,_,h,_,_=>by simp [hasAll] at h
 | [],[],_ :: _,_,h,_=>by simp [hasAll] at h
 | _ :: _,[],_,h,_,_=>by simp [hasAll] at h
 | _ :: _,_ :: _,[],_,h,_=>by simp [hasAll] at h
 | k :: ks,x :: xs,y :: ys,h1,h2,h3=>by
  simp [hasAll] at h1 h2
  simp [allEq] at h3
  rw [e2g h1.1 h2.1 h3.1,d7s h1.2 h2.2 h3.2]
theorem f1l {kk:KK} {a b:Value} (ha:kk.has a=true) (hb:kk.has b=true) (h:kEq a b=true):a=b:=by
 cases kk with
 | sc k =>
  have:∀ x,a ≠ .agg x:=fun x e=>by subst e;cases k <;> simp [KK.has,Sc.has] at ha
  have h':scEq a b=true:=by
   cases a <;> first | exact absurd rfl (this _) | exact h
  exact e2g ha hb h'
 | ag ks =>
  cases a <;> simp [KK.has] at ha
  cases b <;> simp [KK.has] at hb
  simp [kEq] at h
  rename_i x y
  have:=d7s ha hb h
  rw [Array.toList_inj.1 this]
theorem e6c {k:Sc} {a:Value} (ha:k.has a=true) (n:Nat):Instr.sameBits n a a=true:=by
 cases k <;> cases a <;> simp [Sc.has] at ha <;> cases n <;> simp [Instr.sameBits,MapKept.bytes_beq]
theorem d7n {n:Nat}:∀ {ks:List Sc} {xs:List Value},hasAll ks xs=true->((xs.zip xs).all fun (p:Value × Value)=>Instr.sameBits n p.1 p.2)=true
 | [],[],_=>by simp
 | [],_ :: _,h=>by simp [hasAll] at h
 | _ :: _,[],h=>by simp [hasAll] at h
 | k :: ks,x :: xs,h=>by
  simp [hasAll] at h
  simp only [List.zip_cons_cons,List.all_cons,e6c h.1,Bool.true_and]
  exact d7n h.2
theorem e6b {kk:KK} {a:Value} (ha:kk.has a=true) (n:Nat):Instr.sameBits (n+1) a a=true:=by
 cases kk with
 | sc k=>exact e6c ha _
 | ag ks =>
  cases a <;> simp [KK.has] at ha
  rename_i xs
  have:=d7n (n:=n) ha
  simp only [Instr.sameBits,beq_self_eq_true,Bool.true_and]
  exact this
theorem stays {kk:KK} {a:Value} (ha:kk.has a=true) (w:World):(Instr.keyThatStays a a).run P w=.ok a w:=by
 simp [Instr.keyThatStays,e6b ha 9999]
theorem f5i {k:Sc} {a b:Value} (ha:k.has a=true):kEq a b=scEq a b:=by
 cases k <;> cases a <;> simp [Sc.has] at ha <;> rfl
theorem d9c {k:Sc} {desc:TypeDesc} (hd:(match k,desc with | .int j,.int j'=>j'=j | .str,.string=>True | .bool,.bool=>True | _,_=>False)) {a b:Value} (ha:k.has a=true) (hb:k.has b=true):Instr.sameNow desc a b=some (kEq a b):=by
 rw [f5i ha]
 cases k <;> cases desc <;> simp at hd <;> cases a <;> simp [Sc.has] at ha <;> cases b <;> simp [Sc.has] at hb <;> simp [Instr.sameNow,scEq,ha,hb]
 rw [Bool.eq_iff_iff];simp [MapKept.bytes_beq]
theorem c3d {k:Sc} {desc:TypeDesc} (hd:(match k,desc with | .int j,.int j'=>j'=j | .str,.string=>True | .bool,.bool=>True | _,_=>False)) {a:Value} (ha:k.has a=true):∀ (es:List MapEntry) (i:Nat),(∀ e ∈ es,k.has e.key=true)->Instr.findNow desc a es i=some (a6f a es i)
 | [],i,_=>rfl
 | e :: es,i,h=>by
  have h1:=d9c hd ha (h e (List.mem_cons_self ..))
  simp only [Instr.findNow,h1,a6f]
  cases hk:kEq a e.key
  ·simp only [Bool.false_eq_true,if_false];exact c3d hd ha es (i+1) fun x hx=>h x (List.mem_cons_of_mem _ hx)
  ·simp
theorem b3m {eqt:TypeId->Option (List Sc)} (heq:EqOk P eqt) {kt:TypeId} {ks:List Sc} (hk:eqt kt=some ks) {xs:Array Value} (ha:hasAll ks xs.toList=true) (w:World):∀ (es:List MapEntry) (i:Nat),(∀ e ∈ es,(KK.ag ks).has e.key=true) ->
  (Instr.findAsking kt (.agg xs) es i).run P w=.ok (a6f (.agg xs) es i) w
 | [],i,_=>by simp [Instr.findAsking,a6f]
 | e :: es,i,h=>by
  have h1:=h e (List.mem_cons_self ..)
  have ih:=b3m heq hk ha w es (i+1) fun x hx=>h x (List.mem_cons_of_mem _ hx)
  cases hek:e.key <;> rw [hek] at h1 <;> simp [KK.has] at h1
  rename_i ys
  have hq:=(heq kt ks hk xs.toList ys.toList w ha h1).1
  simp only [Array.toArray_toList] at hq
  have hq':(Op.equal kt (.agg xs) (.agg ys)).run P w=.ok (allEq xs.toList ys.toList) w:=hq
  simp only [Instr.findAsking,a6f,hek,kEq]
  simp only [Sem.run_bind,hq',Result.andThen_ok]
  cases allEq xs.toList ys.toList
  ·simp only [Bool.false_eq_true,if_false];exact ih
  ·simp
theorem a8k (hty:TyOk P ty) (heq:EqOk P eqt) (hko:c6j P eqt) {kt:TypeId} {kk:KK} (hkk:a4e ty eqt kt=some kk) {key:Value} (hk:kk.has key=true) (es:List MapEntry) (hes:∀ e ∈ es,kk.has e.key=true) (w:World) :
  (Instr.findKey kt key es).run P w=.ok (a6f key es 0) w/\∀ b,(Instr.checkKey b 10000 kt key).run P w=.ok () w:=by
 unfold a4e at hkk
 have sc:∀ (k:Sc) (desc:TypeDesc),kk=.sc k->P.underlying kt=some desc->(match k,desc with | .int j,.int j'=>j'=j | .str,.string=>True | .bool,.bool=>True | _,_=>False) ->
   (Instr.findKey kt key es).run P w=.ok (a6f key es 0) w/\∀ b,(Instr.checkKey b 10000 kt key).run P w=.ok () w:=by
  intro k desc e1 e2 e3
  subst e1
  have hf:=c3d e3 hk es 0 hes
  refine ⟨by simp [Instr.findKey,run_underlying e2,hf],fun b=>?_⟩
  have hid:MapKept.IsKey desc key:=by
   cases k <;> cases desc <;> simp at e3 <;> cases key <;> simp [KK.has,Sc.has] at hk <;> simp [MapKept.IsKey,hk,e3]
  exact MapKept.run_checkKey e2 hid b 9999
 cases hT:ty kt with
 | none=>rw [hT] at hkk;cases hkk
 | some d =>
  obtain ⟨desc,h1,h2⟩:=(hty kt d hT).u
  obtain ⟨k,sz,zero,bt⟩:=d
  rw [hT] at hkk
  have ag:(eqt kt).map KK.ag=some kk->(match desc with | .struct _ | .array ..=>True | _=>False)->(Instr.findKey kt key es).run P w=.ok (a6f key es 0) w/\∀ b,(Instr.checkKey b 10000 kt key).run P w=.ok () w:=by
   intro hm hds
   simp only [Option.map_eq_some_iff] at hm
   obtain ⟨ks,hks,rfl⟩:=hm
   cases hkey:key <;> rw [hkey] at hk <;> simp [KK.has] at hk
   rename_i xs
   have hfa:=b3m heq hks hk w es 0 hes
   refine ⟨?_,fun b=>by have:=hko kt ks hks xs.toList w b hk;simpa using this⟩
   simp only [Instr.findKey,Sem.run_bind,run_underlying h1,Result.andThen_ok]
   cases es with
   | nil=>simp [Instr.findNow,a6f]
   | cons e es =>
    have h1':=hes e (List.mem_cons_self ..)
    have hsn:Instr.sameNow desc (.agg xs) e.key=none:=by cases desc <;> simp at hds <;> simp [Instr.sameNow]
    simp only [Instr.findNow,hsn]
    exact hfa
  cases k <;> simp only [reduceCtorEq,Option.some.injEq] at hkk
  ·rename_i fs
   refine ag hkk ?_
   cases desc <;> simp [TK.ok] at h2 |-
  ·refine ag hkk ?_
   cases desc <;> simp [TK.ok] at h2 |-
  ·cases desc <;> simp only [TK.ok] at h2
   exact sc .str _ hkk.symm h1 trivial
  ·cases desc <;> simp only [TK.ok] at h2
   exact sc (.int _) _ hkk.symm h1 h2
  ·cases desc <;> simp only [TK.ok] at h2
   exact sc .bool _ hkk.symm h1 trivial
theorem c5q {G:Gh} {nx:Nat} {k:Value}:∀ (es:List (Value × LV)) (xs:List MapEntry) (i:Nat),xs.map (·.key)=es.map (·.1)->LRs G nx noL (es.map (·.2)) (xs.map (·.val)) ->
  (a1c k es=none/\a6f k xs i=none) \/ ∃ j e v,a1c k es=some v/\a6f k xs i=some (i+j,e.val)/\xs[j]?=some e/\kEq k e.key=true/\LR G nx noL v e.val
 | [],xs,i,h1,h2=>by
  have:xs=[]:=by cases xs;rfl;simp at h1
  subst this;exact .inl ⟨rfl,rfl⟩
 | e :: es,xs,i,h1,h2=>by
  cases xs with
  | nil=>simp at h1
  | cons x xs =>
   simp at h1
   simp only [List.map_cons] at h2
   unfold LRs at h2
   obtain ⟨v,r,e1,h3,h4⟩:=h2
   simp at e1;obtain ⟨rfl,rfl⟩:=e1
   simp only [a1c,a6f,h1.1]
   cases hk:kEq k e.1
   ·simp only [Bool.false_eq_true,if_false]
    rcases c5q (k:=k) es xs (i+1) h1.2 h4 with ⟨q1,q2⟩ | ⟨j,e',v,q1,q2,q3,q4,q5⟩
    ·exact .inl ⟨q1,q2⟩
    ·exact .inr ⟨j+1,e',v,q1,by rw [q2];congr 2;omega,by simpa using q3,q4,q5⟩
   ·simp only [if_true]
    exact .inr ⟨0,x,e.2,rfl,by simp,rfl,by rw [h1.1];exact hk,h3⟩
theorem b3g {kk:KK} {es:List (Value × LV)} {xs:List MapEntry} (h:xs.map (·.key)=es.map (·.1)) (ha:es.all (fun e=>kk.has e.1)=true):∀ e ∈ xs,kk.has e.key=true:=by
 intro e he
 have:e.key ∈ es.map (·.1):=by rw [<- h];exact List.mem_map.2 ⟨e,he,rfl⟩
 obtain ⟨p,hp,hpe⟩:=List.mem_map.1 this
 rw [<- hpe]
 exact List.all_eq_true.1 ha p hp
theorem d6h {G:Gh} {nx:Nat} {lm:Nat->Option Nat} {x:LV} {v k:Value} (h:LR G nx lm x v) (hk:keyOf x=some k):v=k:=by
 unfold keyOf at hk
 split at hk
 ·cases hk;unfold LR DR at h;exact h.1
 ·simp only [Option.map_eq_some_iff] at hk
  obtain ⟨vs,h1,rfl⟩:=hk
  unfold LR at h
  obtain ⟨us,rfl,h2⟩:=h
  rw [a7t h1 h2]
 ·cases hk
theorem a7b {e:TypeId} {ed:TyD} (hed:ed.ok P e) {z:LV} (hz:a8t ed=some z) (w:World):∃ zv,(zeroValue e).run P w=.ok zv w/\∀ G nx lm,LR G nx lm z zv:=by
 obtain ⟨i,zv,h1,h2,h3,h4,_⟩:=hed.i
 refine ⟨zv,by simp [zeroValue,typeInfo,h1,h3],fun G nx lm=>?_⟩
 unfold a8t a2d at hz
 by_cases ha:ed.k.isAgg=true
 ·rw [if_pos ha] at hz
  split at hz
  ·cases hz
   have hag:=hed.ag zv (by rw [h1];simp [h3])
   rw [if_pos ha] at hag
   obtain ⟨cs,rfl⟩:=hag
   have hl:(ed.zero.map kz).take ed.sz=ed.zero.map kz:=List.take_of_length_le (by simp [hed.len])
   rw [hl]
   unfold LR
   exact ⟨ed.zero,by rw [<- h4];simp [Value.cells],c2y hed.one⟩
  ·cases hz
 ·rw [if_neg ha] at hz
  cases hzz:ed.zero with
  | nil=>rw [hzz] at hz;simp at hz
  | cons u us =>
   rw [hzz] at hz;simp at hz;subst hz
   have hu:u.oneCell'=true:=hed.one u (by rw [hzz];exact List.mem_cons_self ..)
   have hag:=hed.ag zv (by rw [h1];simp [h3])
   rw [if_neg ha] at hag
   have:zv=u:=by
    rw [hzz,c7q hag] at h4
    simp at h4;exact h4.1
   rw [this];exact c8p hu
theorem a9w {G:Gh} {lm:Nat->Option Nat} {L:Nat->Option (List LV)} {H:GH} (hM:MR G lm L H w) {n:Nat} {es:List (Value × LV)} (hn:H.obj n=some (.map es)) :
  n < H.next/\G.own (G.nm n)=.nm n/\∃ xs clock,w.heap[G.nm n]?=some (.map xs.toArray clock)/\MapR G H.next es xs clock:=by
 obtain ⟨h1,h2,xs,c,h3,h4⟩:=hM.nmd n _ hn
 exact ⟨h1,h2,xs,c,h3,h4⟩
theorem e2z (hty:TyOk P ty) (heq:EqOk P eqt) (hko:c6j P eqt) {T kt et:TypeId} {d ed:TyD} {m k:Operand} {ok:Bool} {kk:KK} {z:LV} {key:Value} {n:Nat} {es:List (Value × LV)} (ho:o.op=.lookup T m k ok) (hok:d.ok P T) (hk:d.k=.map kt et) (hkk:a4e ty eqt kt=some kk)
  (hed:ed.ok P et) (hz:a8t ed=some z) (hkey:keyOf (s.arg k)=some key) (hm:s.arg m=.gm n) (hn:s.H.obj n=some (.map es)) (hp:s.argP m) (hq:s.argP k) (h1:kk.has key=true) (h2:es.all (fun e=>kk.has e.1)=true)
  (hs:Sim E s a w) (hdst:∀ t,o.dst=some t->t < s.nt) (pre:Prop):OpOk P E s o a w ⟨pre,if ok then .tup [(a1c key es).getD z,.d (.k (.bool (a1c key es).isSome))] else (a1c key es).getD z,.no⟩ :=
 OpOk.pure hs hdst fun G lm hM henv=>by
  have hmv:=a0q henv m hp
  rw [hm] at hmv;unfold LR at hmv
  have hkv:=d6h (a0q henv k hq) hkey
  obtain ⟨desc,g1,g2⟩:=hok.u
  rw [hk] at g2
  cases desc <;> simp only [TK.ok] at g2
  obtain ⟨rfl,rfl⟩:=g2
  obtain ⟨_,hown,xs,c,hb,hR⟩:=a9w hM hn
  obtain ⟨hf,hck⟩:=a8k hty heq hko hkk h1 xs (b3g hR.1 h2) w
  obtain ⟨zv,hz1,hz2⟩:=a7b hed hz w
  have hget:(getObj (G.nm n)).run P w=.ok (.map xs.toArray c) w:=MapKept.run_getObj_map hb
  have hres:∃ v',LR G s.H.next lm ((a1c key es).getD z) v'/\(execOp a.eval o).run P w=.ok (.value (if ok then .tuple #[v',.bool (a1c key es).isSome] else v')) w:=by
   rcases c5q (k:=key) es xs 0 hR.1 hR.2.1 with ⟨q1,q2⟩ | ⟨j,e,v,q1,q2,q3,q4,q5⟩
   ·refine ⟨zv,by rw [q1];exact hz2 _ _ _,?_⟩
    rw [q2] at hf
    simp [execOp,ho,Instr.lookup,run_underlying g1,hmv.2,hget,hkv,hck,hf,hz1,q1]
   ·refine ⟨e.val,by rw [q1];exact a0v (Nat.le_refl _) (Gh.le_refl _ _) (fun _ _ e=>by cases e) _ _ q5,?_⟩
    rw [q2] at hf
    simp [execOp,ho,Instr.lookup,run_underlying g1,hmv.2,hget,hkv,hck,hf,q1]
  obtain ⟨v',r1,r2⟩:=hres
  refine ⟨_,r2,?_⟩
  cases ok
  ·exact r1
  ·simp only [if_true]
   unfold LR;exact ⟨[v',.bool (a1c key es).isSome],rfl,by unfold LRs;exact ⟨_,_,rfl,r1,by unfold LRs;exact ⟨_,_,rfl,by unfold LR DR;exact ⟨rfl,rfl⟩,by simp [LRs]⟩⟩⟩
theorem c7t (hty:TyOk P ty) (heq:EqOk P eqt) (hko:c6j P eqt) {T kt et:TypeId} {d ed:TyD} {m k:Operand} {ok:Bool} {kk:KK} {z:LV} {key:Value} (ho:o.op=.lookup T m k ok) (hok:d.ok P T) (hk:d.k=.map kt et) (hkk:a4e ty eqt kt=some kk)
  (hed:ed.ok P et) (hz:a8t ed=some z) (hkey:keyOf (s.arg k)=some key) (hm:s.arg m=.d (.k (.map none))) (hp:s.argP m) (hq:s.argP k) (h1:kk.has key=true)
  (hs:Sim E s a w) (hdst:∀ t,o.dst=some t->t < s.nt) (pre:Prop):OpOk P E s o a w ⟨pre,if ok then .tup [z,.d (.k (.bool false))] else z,.no⟩ :=
 OpOk.pure hs hdst fun G lm hM henv=>by
  have hmv:=a0q henv m hp
  rw [hm] at hmv;unfold LR DR at hmv
  have hkv:=d6h (a0q henv k hq) hkey
  obtain ⟨desc,g1,g2⟩:=hok.u
  rw [hk] at g2
  cases desc <;> simp only [TK.ok] at g2
  obtain ⟨rfl,rfl⟩:=g2
  obtain ⟨hf,hck⟩:=a8k hty heq hko hkk h1 [] (by simp) w
  obtain ⟨zv,hz1,hz2⟩:=a7b hed hz w
  refine ⟨if ok then .tuple #[zv,.bool false] else zv,by simp [execOp,ho,Instr.lookup,run_underlying g1,hmv.1,hkv,hck,hf,hz1,a6f],?_⟩
  cases ok
  ·exact hz2 _ _ _
  ·simp only [if_true]
   unfold LR;exact ⟨[zv,.bool false],rfl,by unfold LRs;exact ⟨_,_,rfl,hz2 _ _ _,by unfold LRs;exact ⟨_,_,rfl,by unfold LR DR;exact ⟨rfl,rfl⟩,by simp [LRs]⟩⟩⟩
theorem d5k {G:Gh} {nx:Nat} {k:Value} {v:LV} {vv:Value} (hv:LR G nx noL v vv):∀ (es:List (Value × LV)) (xs:List MapEntry),xs.map (·.key)=es.map (·.1)->LRs G nx noL (es.map (·.2)) (xs.map (·.val)) ->
  (∀ (born:Nat),a1c k es=none->(xs ++ [(⟨k,vv,born⟩:MapEntry)]).map (·.key)=(mput k v es).map (·.1)/\LRs G nx noL ((mput k v es).map (·.2)) ((xs ++ [(⟨k,vv,born⟩:MapEntry)]).map (·.val))) /\
  (∀ (i j:Nat) (u:Value),a6f k xs i=some (i+j,u)->(xs.modify j fun e=>{ e with key:=k,val:=vv }).map (·.key)=(mput k v es).map (·.1)/\LRs G nx noL ((mput k v es).map (·.2)) ((xs.modify j fun e=>{ e with key:=k,val:=vv }).map (·.val)))
 | [],xs,h1,h2=>by
  have:xs=[]:=by cases xs;rfl;simp at h1
  subst this
  refine ⟨fun born _=>⟨by simp [mput],?_⟩,fun i j u h=>by simp [a6f] at h⟩
  simp only [mput,List.map_cons,List.map_nil,List.nil_append];unfold LRs;exact ⟨_,_,rfl,hv,by simp [LRs]⟩
 | e :: es,xs,h1,h2=>by
  cases xs with
  | nil=>simp at h1
  | cons x xs =>
   simp at h1
   simp only [List.map_cons] at h2
   unfold LRs at h2
   obtain ⟨v0,r,e1,h3,h4⟩:=h2
   simp at e1;obtain ⟨rfl,rfl⟩:=e1
   have ih:=d5k (k:=k) hv es xs h1.2 h4
   simp only [a1c,a6f,mput,h1.1]
   cases hk:kEq k e.1
   ·simp only [Bool.false_eq_true,if_false]
    refine ⟨fun born hn=>?_,fun i j u hj=>?_⟩
    ·have:=ih.1 born hn
     simp only [List.cons_append,List.map_cons]
     exact ⟨by rw [this.1,h1.1],by unfold LRs;exact ⟨_,_,rfl,h3,this.2⟩⟩
    ·have hj':∃ j',j=j' + 1:=by
      cases j with
      | zero =>
       exfalso
       have:∀ (l:List MapEntry) (i:Nat) (p:Nat × Value),a6f k l i=some p->i<=p.1:=by
        intro l
        induction l with
        | nil=>intro i p h;simp [a6f] at h
        | cons y l ih =>
         intro i p h;simp only [a6f] at h;split at h
         ·cases h;exact Nat.le_refl _
         ·have:=ih _ _ h;omega
       have:=this _ _ _ hj
       simp at this
       omega
      | succ j=>exact ⟨j,rfl⟩
     obtain ⟨j',rfl⟩:=hj'
     have:=ih.2 (i+1) j' u (by rw [hj];congr 2;omega)
     simp only [List.modify_succ_cons,List.map_cons]
     exact ⟨by rw [this.1,h1.1],by unfold LRs;exact ⟨_,_,rfl,h3,this.2⟩⟩
   ·simp only [if_true]
    refine ⟨(fun born hn=>by cases hn),fun i j u hj=>?_⟩
    simp at hj
    obtain ⟨rfl,_⟩:=hj
    simp only [List.modify_zero_cons,List.map_cons]
    exact ⟨by rw [h1.2],by unfold LRs;exact ⟨_,_,rfl,hv,h4⟩⟩
theorem b5p (hty:TyOk P ty) (heq:EqOk P eqt) (hko:c6j P eqt) {T kt et:TypeId} {d:TyD} {m k v:Operand} {kk:KK} {key:Value} {n:Nat} {es:List (Value × LV)} (ho:o.op=.mapUpdate T m k v \/ o.op=.insert T m k v) (hok:d.ok P T) (hk:d.k=.map kt et) (hkk:a4e ty eqt kt=some kk)
  (hkey:keyOf (s.arg k)=some key) (hm:s.arg m=.gm n) (hn:s.H.obj n=some (.map es)) (hp:s.argP m) (hq:s.argP k) (hr:s.argP v) (h1:kk.has key=true) (h2:es.all (fun e=>kk.has e.1)=true) (hnb:(s.arg v).nb s.H.next)
  (hs:Sim E s a w) (hdst:∀ t,o.dst=some t->t < s.nt) (pre:Prop):OpOk P E s o a w ⟨pre,.any,.a3b n (.map (mput key (s.arg v) es))⟩:=by
 obtain ⟨e1,G,lm,e2,hM,hx,henv,_⟩:=hs
 have hmv:=a0q henv m hp
 rw [hm] at hmv;unfold LR at hmv
 have hkv:=d6h (a0q henv k hq) hkey
 have hvv:=a6d _ _ (a0q henv v hr) hnb
 obtain ⟨desc,g1,g2⟩:=hok.u
 rw [hk] at g2
 cases desc <;> simp only [TK.ok] at g2
 obtain ⟨rfl,rfl⟩:=g2
 obtain ⟨hlt,hown,xs,c,hb,hR⟩:=a9w hM hn
 obtain ⟨hf,hck⟩:=a8k hty heq hko hkk h1 xs (b3g hR.1 h2) w
 have hget:(getObj (G.nm n)).run P w=.ok (.map xs.toArray c) w:=MapKept.run_getObj_map hb
 have hset:∀ ob:Array MapEntry × Nat,(setObj (G.nm n) (.map ob.1 ob.2)).run P w=.ok () (setB w (G.nm n) (.map ob.1 ob.2)):=fun ob=>MapKept.run_setObj_map _ hb
 have hput:=d5k (k:=key) hvv es xs hR.1 hR.2.1
 have hblt:=heap_lt hb
 have fin:∀ (xs':List MapEntry) (c':Nat),(execOp a.eval o).run P w=.ok .skip (setB w (G.nm n) (.map xs'.toArray c'))->MapR G s.H.next (mput key (s.arg v) es) xs' c'->OpOk P E s o a w ⟨pre,.any,.a3b n (.map (mput key (s.arg v) es))⟩:=by
  intro xs' c' hrun hR'
  have hM':=hM.a3b n hn (.map (mput key (s.arg v) es)) (.map xs'.toArray c') hown (by simp) (by simp) ⟨hown,xs',c',by rw [a2j,if_pos ⟨rfl,hblt⟩],hR'⟩
  exact ⟨.skip,undef,_,hrun,.inr ⟨rfl,rfl⟩,Sim.mk' (L':=s.L) (H':=s.H.set n (.map (mput key (s.arg v) es))) e1 e2 hM' (hx.a3b hM n _ _ hown) henv (by simp [LR]) hdst⟩
 have hexec:∀ w',(Instr.mapUpdate T (.map (some (G.nm n))) key (a.eval v)).run P w=.ok () w'->(execOp a.eval o).run P w=.ok .skip w':=fun w' h=>by
  rcases ho with ho | ho <;> simp [execOp,ho,hmv.2,hkv,h]
 rcases c5q (k:=key) es xs 0 hR.1 hR.2.1 with ⟨q1,q2⟩ | ⟨j,e,v0,q1,q2,q3,q4,q5⟩
 ·rw [q2] at hf
  have:=hput.1 c q1
  refine fin (xs ++ [(⟨key,a.eval v,c⟩:MapEntry)]) (c+1) (hexec _ ?_) ⟨this.1,this.2,?_,by simp [hR.2.2.2]⟩
  ·have:=hset ((xs ++ [(⟨key,a.eval v,c⟩:MapEntry)]).toArray,c+1)
   simp only at this
   simp [Instr.mapUpdate,run_underlying g1,hget,hck,hf]
   simpa using this
  ·simp [hR.2.2.1,hR.2.2.2,List.range_succ]
 ·rw [q2] at hf
  have:=hput.2 0 j e.val q2
  have hke:e.key=key:=by
   have hmem:e ∈ xs:=List.mem_of_getElem? q3
   exact (f1l h1 (b3g hR.1 h2 e hmem) q4).symm
  have hst:=stays h1 w (P:=P)
  have hb2:(xs.modify j fun e=>{ e with key:=key,val:=a.eval v }).map (·.born)=xs.map (·.born):=by
   apply List.ext_getElem?
   intro i
   simp only [List.getElem?_map,List.getElem?_modify]
   cases xs[i]? <;> simp
   split <;> rfl
  refine fin (xs.modify j fun e=>{ e with key:=key,val:=a.eval v }) c (hexec _ ?_) ⟨this.1,this.2,by rw [hb2,hR.2.2.1];simp,by simp [hR.2.2.2]⟩
  ·have:=hset ((xs.modify j fun e=>{ e with key:=key,val:=a.eval v }).toArray,c)
   simp only at this
   simp [Instr.mapUpdate,run_underlying g1,hget,hck,hf,q3,hke,hst]
   exact this
theorem c8e {k:Value}:∀ (es:List (Value × LV)) (xs:List MapEntry) (i:Nat),xs.map (·.key)=es.map (·.1) ->
  (∀ v,a1c k es=some v->∃ u,a6f k xs i=some (i+midx k es,u))/\(a1c k es=none->midx k es=es.length)
 | [],xs,i,h=>⟨fun v q=>by simp [a1c] at q,fun _=>rfl⟩
 | e :: es,xs,i,h=>by
  cases xs with
  | nil=>simp at h
  | cons x xs =>
   simp at h
   have ih:=c8e (k:=k) es xs (i+1) h.2
   simp only [a1c,a6f,midx,h.1]
   cases hk:kEq k e.1
   ·simp only [Bool.false_eq_true,if_false,List.length_cons]
    refine ⟨fun v q=>?_,fun q=>by rw [ih.2 q]⟩
    obtain ⟨u,hu⟩:=ih.1 v q
    exact ⟨u,by rw [hu];congr 2;omega⟩
   ·simp only [if_true]
    exact ⟨fun v _=>⟨x.val,by simp⟩,fun q=>by cases q⟩
theorem c8a {k:Value} {u v:LV}:∀ es:List (Value × LV),mset (midx k es) v (mput k u es)=mput k v es
 | []=>rfl
 | e :: es=>by
  have ih:=c8a (k:=k) (u:=u) (v:=v) es
  simp only [midx,mput]
  cases hk:kEq k e.1
  ·simp only [Bool.false_eq_true,if_false]
   unfold mset at ih |-
   rw [List.modify_succ_cons,ih]
  ·simp only [if_true]
   rfl
theorem e3n {k:Value} {u:LV}:∀ es:List (Value × LV),midx k es < (mput k u es).length
 | []=>by simp [midx,mput]
 | e :: es=>by
  have ih:=e3n (k:=k) (u:=u) es
  simp only [midx,mput]
  cases hk:kEq k e.1
  ·simp only [Bool.false_eq_true,if_false,List.length_cons];omega
  ·simp
theorem d1z (hty:TyOk P ty) (heq:EqOk P eqt) (hko:c6j P eqt) {T kt et:TypeId} {d ed:TyD} {m k:Operand} {kk:KK} {z:LV} {key:Value} {n:Nat} {es:List (Value × LV)} (ho:o.op=.mapEntry T m k) (hok:d.ok P T) (hk:d.k=.map kt et) (hkk:a4e ty eqt kt=some kk)
  (hed:ed.ok P et) (hz:a8t ed=some z) (hkey:keyOf (s.arg k)=some key) (hm:s.arg m=.gm n) (hn:s.H.obj n=some (.map es)) (hp:s.argP m) (hq:s.argP k) (h1:kk.has key=true) (h2:es.all (fun e=>kk.has e.1)=true)
  (hs:Sim E s a w) (hdst:∀ t,o.dst=some t->t < s.nt) (pre:Prop):OpOk P E s o a w ⟨pre,.tup [(a1c key es).getD z,.d (.k (.int .i64 (midx key es)))],.a3b n (.map (mput key ((a1c key es).getD z) es))⟩:=by
 obtain ⟨e1,G,lm,e2,hM,hx,henv,_⟩:=hs
 have hmv:=a0q henv m hp
 rw [hm] at hmv;unfold LR at hmv
 have hkv:=d6h (a0q henv k hq) hkey
 obtain ⟨desc,g1,g2⟩:=hok.u
 rw [hk] at g2
 cases desc <;> simp only [TK.ok] at g2
 obtain ⟨rfl,rfl⟩:=g2
 obtain ⟨hlt,hown,xs,c,hb,hR⟩:=a9w hM hn
 obtain ⟨hf,hck⟩:=a8k hty heq hko hkk h1 xs (b3g hR.1 h2) w
 obtain ⟨zv,hz1,hz2⟩:=a7b hed hz w
 have hget:(getObj (G.nm n)).run P w=.ok (.map xs.toArray c) w:=MapKept.run_getObj_map hb
 have hset:∀ ob:Array MapEntry × Nat,(setObj (G.nm n) (.map ob.1 ob.2)).run P w=.ok () (setB w (G.nm n) (.map ob.1 ob.2)):=fun ob=>MapKept.run_setObj_map _ hb
 have hblt:=heap_lt hb
 have hmi:=c8e (k:=key) es xs 0 hR.1
 have fin:∀ (xs':List MapEntry) (c':Nat) (u:Value),(execOp a.eval o).run P w=.ok (.value (.tuple #[u,.int .i64 (midx key es)])) (setB w (G.nm n) (.map xs'.toArray c'))->LR G s.H.next noL ((a1c key es).getD z) u->MapR G s.H.next (mput key ((a1c key es).getD z) es) xs' c' ->
   OpOk P E s o a w ⟨pre,.tup [(a1c key es).getD z,.d (.k (.int .i64 (midx key es)))],.a3b n (.map (mput key ((a1c key es).getD z) es))⟩:=by
  intro xs' c' u hrun hu hR'
  have hM':=hM.a3b n hn (.map (mput key ((a1c key es).getD z) es)) (.map xs'.toArray c') hown (by simp) (by simp) ⟨hown,xs',c',by rw [a2j,if_pos ⟨rfl,hblt⟩],hR'⟩
  refine ⟨.value (.tuple #[u,.int .i64 (midx key es)]),_,_,hrun,.inl rfl,Sim.mk' (L':=s.L) (H':=s.H.set n (.map (mput key ((a1c key es).getD z) es))) e1 e2 hM' (hx.a3b hM n _ _ hown) henv ?_ hdst⟩
  unfold LR LRs LRs LRs
  exact ⟨[u,.int .i64 (midx key es)],rfl,_,_,rfl,a0v (Nat.le_refl _) (Gh.le_refl _ _) (fun _ _ e=>by cases e) _ _ hu,_,_,rfl,by unfold LR DR;exact ⟨rfl,rfl⟩,rfl⟩
 rcases c5q (k:=key) es xs 0 hR.1 hR.2.1 with ⟨q1,q2⟩ | ⟨j,e,v0,q1,q2,q3,q4,q5⟩
 ·rw [q2] at hf
  have hput:=(d5k (k:=key) (hz2 G s.H.next noL) es xs hR.1 hR.2.1).1 c q1
  have hmc:midx key es=c:=by
   rw [hmi.2 q1,hR.2.2.2]
   have:=congrArg List.length hR.1
   simpa using this.symm
  rw [q1] at fin |-
  simp only [Option.getD_none] at fin |-
  refine fin (xs ++ [(⟨key,zv,c⟩:MapEntry)]) (c+1) zv ?_ (hz2 _ _ _) ⟨hput.1,hput.2,?_,by simp [hR.2.2.2]⟩
  ·have:=hset ((xs ++ [(⟨key,zv,c⟩:MapEntry)]).toArray,c+1)
   simp only at this
   simp [execOp,ho,hmv.2,hkv,Instr.mapEntry,run_underlying g1,hget,hck,hf,hz1,goInt,hmc]
   rw [this];rfl
  ·simp [hR.2.2.1,hR.2.2.2,List.range_succ]
 ·rw [q2] at hf
  have hput:=(d5k (k:=key) q5 es xs hR.1 hR.2.1).2 0 j e.val q2
  have hmem:e ∈ xs:=List.mem_of_getElem? q3
  have hke:e.key=key:=(f1l h1 (b3g hR.1 h2 e hmem) q4).symm
  have hst:=stays h1 w (P:=P)
  have hmj:midx key es=j:=by
   obtain ⟨u,hu⟩:=hmi.1 v0 q1
   rw [q2] at hu
   simp only [Option.some.injEq,Prod.mk.injEq] at hu
   omega
  have hbj:e.born=j:=by
   have:=congrArg (fun l=>l[j]?) hR.2.2.1
   have hjl:=(List.getElem?_eq_some_iff.1 q3).1
   simp only [List.getElem?_map,q3,Option.map_some,List.getElem?_range hjl] at this
   exact Option.some.inj this
  rw [q1] at fin |-
  simp only [Option.getD_some] at fin |-
  have hsame:(xs.modify j fun e'=>{ e' with key:=key,val:=e.val })=xs.modify j fun e'=>{ e' with key:=key }:=by
   apply List.ext_getElem?
   intro i
   simp only [List.getElem?_modify]
   by_cases hi:j=i
   ·subst hi;simp [q3]
   ·simp [hi]
  have hb2:(xs.modify j fun e'=>{ e' with key:=key,val:=e.val }).map (·.born)=xs.map (·.born):=by
   apply List.ext_getElem?
   intro i
   simp only [List.getElem?_map,List.getElem?_modify]
   cases xs[i]? <;> simp
   split <;> rfl
  refine fin (xs.modify j fun e'=>{ e' with key:=key,val:=e.val }) c e.val ?_ q5 ⟨hput.1,hput.2,by rw [hb2,hR.2.2.1];simp,by simp [hR.2.2.2]⟩
  have:=hset ((xs.modify j fun e'=>{ e' with key:=key,val:=e.val }).toArray,c)
  simp only at this
  rw [hsame] at this |-
  simp [execOp,ho,hmv.2,hkv,Instr.mapEntry,run_underlying g1,hget,hck,hf,q3,hke,hst,goInt,hmj,hbj]
  rw [this];rfl
theorem c3v {G:Gh} {nx:Nat} {lm:Nat->Option Nat} {v:LV} {u:Value} (h:LR G nx lm v u):∀ (j:Nat) (l:List LV) (vs:List Value),LRs G nx lm l vs->LRs G nx lm (l.modify j fun _=>v) (vs.modify j fun _=>u)
 | _,[],vs,hl=>by unfold LRs at hl;subst hl;simp [LRs]
 | 0,x :: l,vs,hl=>by
  unfold LRs at hl
  obtain ⟨y,r,rfl,h1,h2⟩:=hl
  simp only [List.modify_zero_cons]
  unfold LRs;exact ⟨_,_,rfl,h,h2⟩
 | j+1,x :: l,vs,hl=>by
  unfold LRs at hl
  obtain ⟨y,r,rfl,h1,h2⟩:=hl
  simp only [List.modify_succ_cons]
  unfold LRs;exact ⟨_,_,rfl,h1,c3v h j l r h2⟩
theorem c4w {T:TypeId} {m t v:Operand} {n:Nat} {kd:IntKind} {j:Int} {es:List (Value × LV)} (ho:o.op=.entryStore T m t v) (hm:s.arg m=.gm n) (ht:s.arg t=.d (.k (.int kd j))) (hn:s.H.obj n=some (.map es)) (hp:s.argP m) (hq:s.argP t) (hr:s.argP v) (h0:0<=j) (h1:j < es.length)
  (hnb:(s.arg v).nb s.H.next) (hs:Sim E s a w) (hdst:∀ t,o.dst=some t->t < s.nt) (pre:Prop):OpOk P E s o a w ⟨pre,.any,.a3b n (.map (mset j.toNat (s.arg v) es))⟩:=by
 obtain ⟨e1,G,lm,e2,hM,hx,henv,_⟩:=hs
 have hmv:=a0q henv m hp
 rw [hm] at hmv;unfold LR at hmv
 have htv:=a0q henv t hq
 rw [ht] at htv;unfold LR DR at htv
 have hvv:=a6d _ _ (a0q henv v hr) hnb
 obtain ⟨hlt,hown,xs,c,hb,hR⟩:=a9w hM hn
 have hl:xs.length=es.length:=by have:=congrArg List.length hR.1;simpa using this
 have hget:(getObj (G.nm n)).run P w=.ok (.map xs.toArray c) w:=MapKept.run_getObj_map hb
 have hblt:=heap_lt hb
 obtain ⟨i,rfl⟩:∃ i:Nat,j=(i:Int):=⟨j.toNat,by omega⟩
 have hi:i < xs.length:=by omega
 have hborn:∀ (q:Nat) (h:q < xs.length),xs[q].born=q:=fun q h=>by
  have:=congrArg (fun l=>l[q]?) hR.2.2.1
  simp only [List.getElem?_map,List.getElem?_eq_getElem h,Option.map_some,List.getElem?_range h] at this
  exact Option.some.inj this
 have hidx:xs.toArray.findIdx? (fun e=>((e.born:Nat):Int) == (i:Int))=some i:=by
  rw [List.findIdx?_toArray,List.findIdx?_eq_some_iff_getElem]
  refine ⟨hi,by simp [hborn i hi],fun q hq=>?_⟩
  simp only [hborn q (by omega)]
  simp;omega
 have hset:(setObj (G.nm n) (.map (xs.modify i fun e=>{ e with val:=a.eval v }).toArray c)).run P w=.ok () (setB w (G.nm n) (.map (xs.modify i fun e=>{ e with val:=a.eval v }).toArray c)):=MapKept.run_setObj_map _ hb
 have hrun:(execOp a.eval o).run P w=.ok .skip (setB w (G.nm n) (.map (xs.modify i fun e=>{ e with val:=a.eval v }).toArray c)):=by
  simp [execOp,ho,hmv.2,htv.1,Instr.entryStore,hget,asInt,asIntOf,hidx,hset]
 have hR':MapR G s.H.next (mset i (s.arg v) es) (xs.modify i fun e=>{ e with val:=a.eval v }) c:=by
  refine ⟨?_,?_,?_,by rw [List.length_modify];exact hR.2.2.2⟩
  ·have a1:(xs.modify i fun e=>{ e with val:=a.eval v }).map (·.key)=xs.map (·.key):=by
    apply List.ext_getElem?
    intro q
    simp only [List.getElem?_map,List.getElem?_modify]
    cases xs[q]? <;> simp
    split <;> rfl
   have a2:(mset i (s.arg v) es).map (·.1)=es.map (·.1):=by
    apply List.ext_getElem?
    intro q
    simp only [mset,List.getElem?_map,List.getElem?_modify]
    cases es[q]? <;> simp
    split <;> rfl
   rw [a1,a2,hR.1]
  ·have a1:(xs.modify i fun e=>{ e with val:=a.eval v }).map (·.val)=(xs.map (·.val)).modify i fun _=>a.eval v:=by
    apply List.ext_getElem?
    intro q
    simp only [List.getElem?_map,List.getElem?_modify]
    cases xs[q]? <;> simp
    split <;> rfl
   have a2:(mset i (s.arg v) es).map (·.2)=(es.map (·.2)).modify i fun _=>s.arg v:=by
    apply List.ext_getElem?
    intro q
    simp only [mset,List.getElem?_map,List.getElem?_modify]
    cases es[q]? <;> simp
    split <;> rfl
   rw [a1,a2]
   exact c3v hvv i _ _ hR.2.1
  ·have a1:(xs.modify i fun e=>{ e with val:=a.eval v }).map (·.born)=xs.map (·.born):=by
    apply List.ext_getElem?
    intro q
    simp only [List.getElem?_map,List.getElem?_modify]
    cases xs[q]? <;> simp
    split <;> rfl
   rw [a1,hR.2.2.1,List.length_modify]
 have hM':=hM.a3b n hn (.map (mset i (s.arg v) es)) (.map (xs.modify i fun e=>{ e with val:=a.eval v }).toArray c) hown (by simp) (by simp) ⟨hown,_,c,by rw [a2j,if_pos ⟨rfl,hblt⟩],hR'⟩
 exact ⟨.skip,undef,_,hrun,.inr ⟨rfl,rfl⟩,Sim.mk' (L':=s.L) (H':=s.H.set n (.map (mset i (s.arg v) es))) e1 e2 hM' (hx.a3b hM n _ _ hown) henv (by simp [LR]) hdst⟩
theorem f1j {G:Gh} {nx:Nat} {lm:Nat->Option Nat}:∀ vs:List Value,vs.all Value.oneCell'=true->LRs G nx lm (vs.map kz) vs
 | [],_=>by simp [LRs]
 | v :: vs,h=>by
  simp only [List.all_cons,Bool.and_eq_true] at h
  simp only [List.map_cons]
  unfold LRs
  exact ⟨v,vs,rfl,c8p h.1,f1j vs h.2⟩
theorem e7o {r:Res} {x:Operand} {xT aT:TypeId} (hty:TyOk P ty) (ho:o.op=.typeAssert x xT aT true) (h:d8x ty s x aT=some r) (hp:r.pre) (hs:Sim E s a w) (hdst:∀ t,o.dst=some t->t < s.nt):OpOk P E s o a w r:=by
 unfold d8x at h
 split at h
 ·cases h
 ·rename_i d t v hne hT hx
  obtain ⟨desc,g1,g2⟩:=(hty aT d hT).u
  have hn:∀ ms,desc ≠ .interface ms:=fun ms e=>by
   subst e
   obtain ⟨k,sz,zero,bt⟩:=d
   cases k <;> simp only [TK.ok] at g2
   exact hne _ _ _ _ rfl
  split at h
  ·rename_i e
   subst e
   split at h
   ·rename_i vs
    split at h
    ·rename_i hall
     cases h
     refine OpOk.pure hs hdst fun G lm hM henv=>?_
     have hv:=a0q henv x hp
     rw [hx] at hv;unfold LR DR at hv
     refine ⟨.tuple #[.agg vs,.bool true],?_,?_⟩
     ·cases desc <;> first | exact absurd rfl (hn _) | simp [execOp,ho,Instr.typeAssert,run_underlying g1,hv.1]
     ·unfold LR LRs LRs LRs
      exact ⟨_,rfl,_,_,rfl,by unfold LR;exact ⟨vs.toList,by simp,f1j _ hall⟩,_,_,rfl,by unfold LR DR;exact ⟨rfl,rfl⟩,rfl⟩
    ·cases h
   ·split at h
    ·rename_i v' hna hall
     cases h
     refine OpOk.pure hs hdst fun G lm hM henv=>?_
     have hv:=a0q henv x hp
     rw [hx] at hv;unfold LR DR at hv
     refine ⟨.tuple #[v,.bool true],?_,?_⟩
     ·cases desc <;> first | exact absurd rfl (hn _) | simp [execOp,ho,Instr.typeAssert,run_underlying g1,hv.1]
     ·unfold LR LRs LRs LRs
      exact ⟨_,rfl,_,_,rfl,by unfold LR DR;exact ⟨rfl,hall⟩,_,_,rfl,by unfold LR DR;exact ⟨rfl,rfl⟩,rfl⟩
    ·cases h
  ·rename_i hte
   simp only [Option.map_eq_some_iff] at h
   obtain ⟨z,hz,rfl⟩:=h
   refine OpOk.pure hs hdst fun G lm hM henv=>?_
   have hv:=a0q henv x hp
   rw [hx] at hv;unfold LR DR at hv
   obtain ⟨zv,hz1,hz2⟩:=a7b (hty aT d hT) hz w
   refine ⟨.tuple #[zv,.bool false],?_,?_⟩
   ·cases desc <;> first | exact absurd rfl (hn _) | simp [execOp,ho,Instr.typeAssert,run_underlying g1,hv.1,hte,hz1]
   ·unfold LR LRs LRs LRs
    exact ⟨_,rfl,_,_,rfl,hz2 _ _ _,_,_,rfl,by unfold LR DR;exact ⟨rfl,rfl⟩,rfl⟩
 ·rename_i d hne hT hx
  obtain ⟨desc,g1,g2⟩:=(hty aT d hT).u
  have hn:∀ ms,desc ≠ .interface ms:=fun ms e=>by
   subst e
   obtain ⟨k,sz,zero,bt⟩:=d
   cases k <;> simp only [TK.ok] at g2
   exact hne _ _ _ _ rfl
  simp only [Option.map_eq_some_iff] at h
  obtain ⟨z,hz,rfl⟩:=h
  refine OpOk.pure hs hdst fun G lm hM henv=>?_
  have hv:=a0q henv x hp
  rw [hx] at hv;unfold LR DR at hv
  obtain ⟨zv,hz1,hz2⟩:=a7b (hty aT d hT) hz w
  refine ⟨.tuple #[zv,.bool false],?_,?_⟩
  ·cases desc <;> first | exact absurd rfl (hn _) | simp [execOp,ho,Instr.typeAssert,run_underlying g1,hv.1,hz1]
  ·unfold LR LRs LRs LRs
   exact ⟨_,rfl,_,_,rfl,hz2 _ _ _,_,_,rfl,by unfold LR DR;exact ⟨rfl,rfl⟩,rfl⟩
 ·cases h
theorem a9s (hty:TyOk P ty) (heq:EqOk P eqt) (hko:c6j P eqt) (h:opX ty eqt pub s o.dst o.op=some r) (hp:r.pre) (hs:Sim E s a w) (hdst:∀ t,o.dst=some t->t < s.nt):OpOk P E s o a w r:=by
 have hbi:∀ b args tys,o.op=.call ⟨.builtin b,args,tys⟩->OpOk P E s o a w r:=by
  intro b args tys ho
  have ho0:=ho
  rw [ho] at h
  simp only [opX] at h
  cases hvb:a3z ty pub s o.dst b tys.toList args.toList with
  | some r'=>rw [hvb,Option.some_or] at h;cases h;exact d0v hty ho0 hvb hp hs hdst
  | none =>
  rw [hvb,Option.none_or] at h
  unfold c0e at h
  have alen:∀ {l:List Operand} {x:Operand},args.toList=[x]->args=#[x]:=fun e=>Array.toList_inj.1 e
  split at h
  ·rename_i t x e1 e2
   have ea:args=#[x]:=Array.toList_inj.1 e2
   have et:tys=#[t]:=Array.toList_inj.1 e1
   subst ea;subst et
   cases hT:ty t with
   | none=>rw [hT] at h;cases h
   | some d =>
    obtain ⟨k,sz,zero,bt⟩:=d
    obtain ⟨desc,g1,g2⟩:=(hty t _ hT).u
    rw [hT] at h
    cases k <;> simp only [reduceCtorEq] at h
    ·cases desc <;> simp only [TK.ok] at g2
     simp only [Option.map_eq_some_iff] at h
     obtain ⟨xs,hx,rfl⟩:=h
     refine c7v ho hs hdst fun G lm hM henv=>?_
     obtain ⟨A,cap,hv⟩:=b4j (a0q henv x hp) hx
     exact ⟨.int .i64 xs.length,fun cs=>by simp [builtin,Builtin.len_,run_underlying g1,hv,goInt],by unfold intV LR DR;exact ⟨rfl,rfl⟩⟩
    ·cases desc <;> simp only [TK.ok] at g2
     split at h
     ·rename_i n hx
      split at h
      ·rename_i es hn
       cases h
       refine c7v ho hs hdst fun G lm hM henv=>?_
       have hv:=a0q henv x hp
       rw [hx] at hv;unfold LR at hv
       obtain ⟨_,hown,xs,c,hb,hR⟩:=a9w hM hn
       have hget:(getObj (G.nm n)).run P w=.ok (.map xs.toArray c) w:=MapKept.run_getObj_map hb
       have hl:xs.length=es.length:=by have:=congrArg List.length hR.1;simpa using this
       exact ⟨.int .i64 es.length,fun cs=>by simp [builtin,Builtin.len_,run_underlying g1,hv.2,hget,goInt,hl],by unfold intV LR DR;exact ⟨rfl,rfl⟩⟩
      ·cases h
     ·rename_i hx
      cases h
      refine c7v ho hs hdst fun G lm hM henv=>?_
      have hv:=a0q henv x hp
      rw [hx] at hv;unfold LR DR at hv
      exact ⟨.int .i64 0,fun cs=>by simp [builtin,Builtin.len_,run_underlying g1,hv.1,goInt],by unfold intV LR DR;exact ⟨rfl,rfl⟩⟩
     ·cases h
    ·cases desc <;> simp only [TK.ok] at g2
     split at h
     ·rename_i z hx
      cases h
      refine c7v ho hs hdst fun G lm hM henv=>?_
      have hv:=a0q henv x hp
      rw [hx] at hv;unfold LR DR at hv
      exact ⟨.int .i64 z.size,fun cs=>by simp [builtin,Builtin.len_,run_underlying g1,hv.1,goInt],by unfold intV LR DR;exact ⟨rfl,rfl⟩⟩
     ·cases h
  ·rename_i tt x y e2
   have ea:args=#[x,y]:=Array.toList_inj.1 e2
   subst ea
   split at h
   ·rename_i k m k' n hx hy
    cases h
    refine c7v ho hs hdst fun G lm hM henv=>?_
    have hv:=a0q henv x hp.1
    have hu:=a0q henv y hp.2
    rw [hx] at hv;rw [hy] at hu;unfold LR DR at hv hu
    exact ⟨.int k (minI m n),fun cs=>by simp [builtin,Builtin.min_,Builtin.min2,hv.1,hu.1,minI],by unfold intV LR DR;exact ⟨rfl,rfl⟩⟩
   ·cases h
  ·rename_i tt x y e2
   have ea:args=#[x,y]:=Array.toList_inj.1 e2
   subst ea
   split at h
   ·rename_i k m k' n hx hy
    cases h
    refine c7v ho hs hdst fun G lm hM henv=>?_
    have hv:=a0q henv x hp.1
    have hu:=a0q henv y hp.2
    rw [hx] at hv;rw [hy] at hu;unfold LR DR at hv hu
    exact ⟨.int k (maxI m n),fun cs=>by simp [builtin,Builtin.max_,Builtin.max2,hv.1,hu.1,maxI],by unfold intV LR DR;exact ⟨rfl,rfl⟩⟩
   ·cases h
  ·rename_i t t' x y e1 e2
   have ea:args=#[x,y]:=Array.toList_inj.1 e2
   have et:tys=#[t,t']:=Array.toList_inj.1 e1
   subst ea;subst et
   split at h
   ·rename_i htt
    subst htt
    cases hT:ty t with
    | none=>rw [hT] at h;cases h
    | some d =>
     obtain ⟨k,sz,zero,bt⟩:=d
     rw [hT] at h
     cases k <;> simp only [reduceCtorEq] at h
     rename_i e
     cases he:ty e with
     | none=>rw [he] at h;cases h
     | some ed =>
      rw [he] at h
      simp only [Option.bind_some] at h
      split at h
      ·cases h
      ·rename_i hsz
       cases hy:rowsOf (s.arg y) with
       | none=>rw [hy] at h;cases h
       | some ys =>
        rw [hy] at h
        simp only [Option.bind_some] at h
        obtain ⟨g2,G,lm,g1,hM,hx,henv,_⟩:=id hs
        split at h
        ·rename_i n xs hxa
         split at h
         ·rename_i e' sz' m hn
          split at h
          ·rename_i hc
           obtain ⟨rfl,rfl⟩:=hc
           cases h
           obtain ⟨p1,p2,rfl,p4,p5,p6⟩:=hp
           have hxv:=a0q henv x p1
           rw [hxa] at hxv
           obtain ⟨v',w',hr,hS⟩:=c0g (hty t _ hT) rfl (hty e' _ he) ho g1 g2 hM hx henv hn hxv (a0q henv y p2) hy p4 p5 p6 hsz hdst
           exact ⟨_,v',w',hr,.inl rfl,hS⟩
          ·cases h
         ·cases h
        ·rename_i hxa
         cases h
         obtain ⟨p1,p2,p4,p5⟩:=hp
         have hxv:=a0q henv x p1
         rw [hxa] at hxv;unfold LR DR at hxv
         have hle:=d4c (G:=G) s.H.next (.slice none 0 0) 0
         have hM1:=hM.f2a e ed.sz (by omega)
         have hx1:Ext E (arrG G s.H.next (.slice none 0 0) 0) (s.H.add (.arr e ed.sz 0)) w:=Ext.trans hx ⟨hle,Nat.le_succ _,rfl,rfl,rfl,Nat.le_refl _,Nat.le_refl _,fun _ _ _=>rfl,fun _ _=>.inl rfl⟩
         have henv1:=a4t (s:=s) (a:=a) (Nat.le_succ s.H.next) hle (fun _ _ e=>e) henv
         have hosl:LR (arrG G s.H.next (.slice none 0 0) 0) (s.H.add (.arr e ed.sz 0)).next lm (.osl s.H.next []) (a.eval x):=by
          unfold LR
          refine ⟨Nat.lt_succ_self _,?_,by simp,fun _=>by rw [hxv.1];simp [arrG]⟩
          rw [hxv.1];unfold DR;exact ⟨none,0,ed.sz,rfl,Nat.le_refl _,by simp [maxLen],by simp,.inl rfl⟩
         obtain ⟨v',w',hr,hS⟩:=c0g (s:=s) (H:=s.H.add (.arr e ed.sz 0)) (n:=s.H.next) (xs:=[]) (hty t _ hT) rfl (hty e _ he) ho (a1g (Nat.le_succ _) hle _ _ g1) g2 hM1 hx1 henv1 (by simp [GH.a0b]) hosl (a0v (Nat.le_succ _) hle (fun _ _ e=>e) _ _ (a0q henv y p2)) hy (by simp) p4 (by simpa using p5) hsz hdst
         rw [c3x] at hS
         refine ⟨_,v',w',hr,.inl rfl,?_⟩
         simpa [S.eff] using hS
        ·cases h
   ·cases h
  ·cases h
 cases hop:o.op with
 | call c =>
  obtain ⟨callee,args,tys⟩:=c
  cases callee with
  | builtin b=>exact hbi b args tys hop
  | value f=>rw [hop] at h;simp [opX,a1x] at h
  | invoke f m=>rw [hop] at h;simp [opX,a1x] at h
 | lookup T m k ok =>
  rw [hop] at h
  simp only [opX] at h
  cases hT:ty T with
  | none=>rw [hT] at h;cases h
  | some d =>
   obtain ⟨kd,sz,zero,bt⟩:=d
   rw [hT] at h
   cases kd <;> simp only [reduceCtorEq] at h
   rename_i kt et
   cases hkk:a4e ty eqt kt with
   | none=>rw [hkk] at h;cases h
   | some kk =>
    cases he:ty et with
    | none=>rw [hkk,he] at h;cases h
    | some ed =>
     cases hz:a8t ed with
     | none=>rw [hkk,he] at h;simp [hz] at h
     | some z =>
      cases hkey:keyOf (s.arg k) with
      | none=>rw [hkk,he] at h;simp [hz,hkey] at h
      | some key =>
       rw [hkk,he] at h
       simp only [Option.bind_some,hz,hkey] at h
       split at h
       ·rename_i n hm
        split at h
        ·rename_i es hn
         cases h
         exact e2z hty heq hko hop (hty _ _ hT) rfl hkk (hty _ _ he) hz hkey hm hn hp.1 hp.2.1 hp.2.2.1 hp.2.2.2 hs hdst _
        ·cases h
       ·rename_i hm
        cases h
        exact c7t hty heq hko hop (hty _ _ hT) rfl hkk (hty _ _ he) hz hkey hm hp.1 hp.2.1 hp.2.2 hs hdst _
       ·cases h
 | mapUpdate T m k v =>
  rw [hop] at h
  simp only [opX] at h
  split at h
  ·rename_i kt et sz zero bt n hT hm
   cases hkk:a4e ty eqt kt with
   | none=>rw [hkk] at h;cases h
   | some kk =>
    cases hkey:keyOf (s.arg k) with
    | none=>rw [hkk] at h;simp [hkey] at h
    | some key =>
     rw [hkk] at h
     simp only [Option.bind_some,hkey] at h
     split at h
     ·rename_i es hn
      cases h
      exact b5p hty heq hko (.inl hop) (hty _ _ hT) rfl hkk hkey hm hn hp.1 hp.2.1 hp.2.2.1 hp.2.2.2.1 hp.2.2.2.2.1 hp.2.2.2.2.2 hs hdst _
     ·cases h
  ·cases h
 | insert T m k v =>
  rw [hop] at h
  simp only [opX] at h
  split at h
  ·rename_i kt et sz zero bt n hT hm
   cases hkk:a4e ty eqt kt with
   | none=>rw [hkk] at h;cases h
   | some kk =>
    cases hkey:keyOf (s.arg k) with
    | none=>rw [hkk] at h;simp [hkey] at h
    | some key =>
     rw [hkk] at h
     simp only [Option.bind_some,hkey] at h
     split at h
     ·rename_i es hn
      cases h
      exact b5p hty heq hko (.inr hop) (hty _ _ hT) rfl hkk hkey hm hn hp.1 hp.2.1 hp.2.2.1 hp.2.2.2.1 hp.2.2.2.2.1 hp.2.2.2.2.2 hs hdst _
     ·cases h
  ·cases h
 | mapEntry T m k =>
  rw [hop] at h
  simp only [opX] at h
  split at h
  ·rename_i kt et sz zero bt n hT hm
   cases hkk:a4e ty eqt kt with
   | none=>rw [hkk] at h;cases h
   | some kk =>
    cases he:ty et with
    | none=>rw [hkk,he] at h;cases h
    | some ed =>
     cases hz:a8t ed with
     | none=>rw [hkk,he] at h;simp [hz] at h
     | some z =>
      cases hkey:keyOf (s.arg k) with
      | none=>rw [hkk,he] at h;simp [hz,hkey] at h
      | some key =>
       rw [hkk,he] at h
       simp only [Option.bind_some,hz,hkey] at h
       split at h
       ·rename_i es hn
        cases h
        exact d1z hty heq hko hop (hty _ _ hT) rfl hkk (hty _ _ he) hz hkey hm hn hp.1 hp.2.1 hp.2.2.1 hp.2.2.2 hs hdst _
       ·cases h
  ·cases h
 | entryStore T m t v =>
  rw [hop] at h
  simp only [opX] at h
  split at h
  ·rename_i n kd j hm ht
   split at h
   ·rename_i es hn
    cases h
    exact c4w hop hm ht hn hp.1 hp.2.1 hp.2.2.1 hp.2.2.2.1 hp.2.2.2.2.1 hp.2.2.2.2.2 hs hdst _
   ·cases h
  ·cases h
 | slice T x lo hi mx =>
  rw [hop] at h
  cases mx with
  | some m=>simp only [opX] at h;exact a9r hty (by rw [hop];exact h) hp hs hdst
  | none =>
   simp only [opX] at h
   cases hv:slV ty s T x lo hi with
   | some r'=>rw [hv,Option.some_or] at h;cases h;exact e2e hty hop hv hp hs hdst
   | none=>rw [hv,Option.none_or] at h;exact a9r hty (by rw [hop];exact h) hp hs hdst
 | makeSlice T l c =>
  rw [hop] at h
  simp only [opX] at h
  exact e0b hty hop h hp hs hdst
 | index T x i =>
  rw [hop] at h
  simp only [opX] at h
  exact a9r hty (by rw [hop];exact h) hp hs hdst
 | makeInterface T x =>
  rw [hop] at h
  simp only [opX] at h
  exact a9r hty (by rw [hop];exact h) hp hs hdst
 | convert A B x =>
  rw [hop] at h
  simp only [opX] at h
  exact a9r hty (by rw [hop];exact h) hp hs hdst
 | typeAssert x xT aT ok =>
  rw [hop] at h
  cases ok with
  | true=>simp only [opX] at h;exact e7o hty hop h hp hs hdst
  | false=>simp only [opX,a1x] at h;cases h
 | binOp bo T x y yT =>
  rw [hop] at h
  simp only [opX] at h
  cases hn:a9t ty s bo T x y with
  | none =>
   rw [hn,Option.none_or] at h
   exact b8i hty heq (by rw [hop];exact h) hp hs hdst
  | some r' =>
   rw [hn,Option.some_or] at h
   cases h
   exact c7z hty hop hn hp hs hdst
 | _ =>
  have h':a1x ty eqt pub s o.dst o.op=some r:=by rw [hop] at h |-;exact h
  exact b8i hty heq h' hp hs hdst
end
end Go.Aft
