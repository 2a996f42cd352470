import Derived.Test.YtdhphbedajhmnaaGreatA40
import Derived.Test.YtdhphbedajhmnaaGreatA41
set_option linter.all false
section
set_option maxRecDepth 20000
namespace Go.Aft
inductive Dom:List Int->List Int->Prop
 | refl (A:List Int):Dom A A
 | cons {a b:Int} {A B:List Int}:a<=b->Dom A B->Dom (a :: A) (b :: B)
 | perm {A B:List Int}:A.Perm B->Dom A B
 | trans {A B C:List Int}:Dom A B->Dom B C->Dom A C
theorem Dom.left (C:List Int) {A B:List Int} (h:Dom A B):Dom (C ++ A) (C ++ B):=by
 induction C with
 | nil=>exact h
 | cons c C ih=>exact .cons (Int.le_refl c) ih
theorem Dom.append {A B C D:List Int} (h:Dom A B) (k:Dom C D):Dom (A ++ C) (B ++ D) :=
 .trans (k.left A) (.trans (.perm List.perm_append_comm) (.trans (h.left D) (.perm List.perm_append_comm)))
theorem Dom.len {A B:List Int} (h:Dom A B):A.length=B.length:=by
 induction h with
 | refl=>rfl
 | cons _ _ ih=>simp [ih]
 | perm h=>exact h.length_eq
 | trans _ _ i1 i2=>exact i1.trans i2
theorem sumI_acc:∀ (l:List Int) (a:Int),l.foldl (· + ·) a=a+sumI l
 | [],a=>by simp [sumI]
 | x :: l,a=>by
  have h1:=sumI_acc l (a+x)
  have h2:=sumI_acc l (0+x)
  simp only [sumI,List.foldl_cons] at h1 h2 |-
  omega
theorem sumI_cons (a:Int) (l:List Int):sumI (a :: l)=a+sumI l:=by
 have:=sumI_acc l (0+a)
 simp only [sumI,List.foldl_cons] at this |-
 omega
theorem sumI_perm {A B:List Int} (h:A.Perm B):sumI A=sumI B:=by
 induction h with
 | nil=>rfl
 | cons x _ ih=>rw [sumI_cons,sumI_cons,ih]
 | swap x y l=>simp only [sumI_cons];omega
 | trans _ _ i1 i2=>exact i1.trans i2
theorem Dom.sum {A B:List Int} (h:Dom A B):sumI A<=sumI B:=by
 induction h with
 | refl=>exact Int.le_refl _
 | cons q _ ih=>rw [sumI_cons,sumI_cons];omega
 | perm h=>exact Int.le_of_eq (sumI_perm h)
 | trans _ _ i1 i2=>exact Int.le_trans i1 i2
theorem Dom.low {A B:List Int} (h:Dom A B):∀ b ∈ B,∃ a ∈ A,a<=b:=by
 induction h with
 | refl=>exact fun b hb=>⟨b,hb,Int.le_refl _⟩
 | @cons x y A B q _ ih =>
  intro b hb
  rcases List.mem_cons.1 hb with rfl | hb
  ·exact ⟨x,by simp,q⟩
  ·obtain ⟨a,h1,h2⟩:=ih b hb
   exact ⟨a,by simp [h1],h2⟩
 | perm h=>exact fun b hb=>⟨b,h.mem_iff.2 hb,Int.le_refl _⟩
 | trans _ _ i1 i2 =>
  intro c hc
  obtain ⟨b,h1,h2⟩:=i2 c hc
  obtain ⟨a,h3,h4⟩:=i1 b h1
  exact ⟨a,h3,Int.le_trans h4 h2⟩
theorem Dom.high {A B:List Int} (h:Dom A B):∀ a ∈ A,∃ b ∈ B,a<=b:=by
 induction h with
 | refl=>exact fun b hb=>⟨b,hb,Int.le_refl _⟩
 | @cons x y A B q _ ih =>
  intro b hb
  rcases List.mem_cons.1 hb with rfl | hb
  ·exact ⟨y,by simp,q⟩
  ·obtain ⟨a,h1,h2⟩:=ih b hb
   exact ⟨a,by simp [h1],h2⟩
 | perm h=>exact fun b hb=>⟨b,h.mem_iff.1 hb,Int.le_refl _⟩
 | trans _ _ i1 i2 =>
  intro c hc
  obtain ⟨b,h1,h2⟩:=i1 c hc
  obtain ⟨a,h3,h4⟩:=i2 b h1
  exact ⟨a,h3,Int.le_trans h2 h4⟩
theorem minI_le (a b:Int):minI a b<=a/\minI a b<=b/\(minI a b=a \/ minI a b=b):=by unfold minI;split <;> omega
theorem maxI_ge (a b:Int):a<=maxI a b/\b<=maxI a b/\(maxI a b=a \/ maxI a b=b):=by unfold maxI;split <;> omega
theorem min_fold:∀ (l:List Int) (a:Int),l.foldl minI a<=a/\(∀ x ∈ l,l.foldl minI a<=x)/\(l.foldl minI a=a \/ l.foldl minI a ∈ l)
 | [],a=>by simp
 | x :: l,a=>by
  have h:=min_fold l (minI a x)
  have k:=minI_le a x
  simp only [List.foldl_cons]
  refine ⟨Int.le_trans h.1 k.1,fun y hy=>?_,?_⟩
  ·rcases List.mem_cons.1 hy with rfl | hy
   ·exact Int.le_trans h.1 k.2.1
   ·exact h.2.1 y hy
  ·rcases h.2.2 with e | e
   ·rw [e];rcases k.2.2 with q | q
    ·exact .inl q
    ·rw [q];exact .inr (by simp)
   ·exact .inr (by simp [e])
theorem max_fold:∀ (l:List Int) (a:Int),a<=l.foldl maxI a/\(∀ x ∈ l,x<=l.foldl maxI a)/\(l.foldl maxI a=a \/ l.foldl maxI a ∈ l)
 | [],a=>by simp
 | x :: l,a=>by
  have h:=max_fold l (maxI a x)
  have k:=maxI_ge a x
  simp only [List.foldl_cons]
  refine ⟨Int.le_trans k.1 h.1,fun y hy=>?_,?_⟩
  ·rcases List.mem_cons.1 hy with rfl | hy
   ·exact Int.le_trans k.2.1 h.1
   ·exact h.2.1 y hy
  ·rcases h.2.2 with e | e
   ·rw [e];rcases k.2.2 with q | q
    ·exact .inl q
    ·rw [q];exact .inr (by simp)
   ·exact .inr (by simp [e])
theorem MinL_spec {l:List Int} (h:l ≠ []):(∀ x ∈ l,MinL l<=x)/\MinL l ∈ l:=by
 cases l with
 | nil=>exact absurd rfl h
 | cons a l =>
  have k:=min_fold (a :: l) a
  refine ⟨k.2.1,?_⟩
  rcases k.2.2 with e | e
  ·unfold MinL;rw [List.headD_cons,e];simp
  ·exact e
theorem MaxL_spec {l:List Int} (h:l ≠ []):(∀ x ∈ l,x<=MaxL l)/\MaxL l ∈ l:=by
 cases l with
 | nil=>exact absurd rfl h
 | cons a l =>
  have k:=max_fold (a :: l) a
  refine ⟨k.2.1,?_⟩
  rcases k.2.2 with e | e
  ·unfold MaxL;rw [List.headD_cons,e];simp
  ·exact e
theorem Dom.fold {A B:List Int} (h:Dom A B) (hA:A ≠ []) (f:Int):foldOf f A<=foldOf f B:=by
 have hl:=h.len
 have hB:B ≠ []:=fun e=>hA (List.eq_nil_of_length_eq_zero (by rw [hl,e];rfl))
 unfold foldOf
 split
 ·rw [hl];exact Int.le_refl _
 ·split
  ·have:=h.sum
   unfold clampM minI maxI;split <;> split <;> split <;> (try split) <;> omega
  ·split
   ·obtain ⟨a,h1,h2⟩:=h.low _ (MinL_spec hB).2
    exact Int.le_trans ((MinL_spec hA).1 a h1) h2
   ·obtain ⟨a,h1,h2⟩:=h.high _ (MaxL_spec hA).2
    exact Int.le_trans h2 ((MaxL_spec hB).1 a h1)
theorem farI_low (a b:Int):farI a b false=minI b a:=by
 unfold farI minI
 by_cases h:b < a
 ·simp [h];omega
 ·simp [h];omega
theorem farI_high (a b:Int):farI a b true=maxI b a:=by
 unfold farI maxI
 by_cases h:b < a
 ·simp [h]
 ·simp [h]
structure BSpec (V U:Way->List Int) (f:Int) (ws:List Way) (b:Bnd):Prop where
 none1:b.nb.none=true->b.wn ∈ ws/\V b.wn=[]
 none2:∀ w ∈ ws,V w=[]->b.nb.none=true
 some1:b.nb.some=true->(b.wl ∈ ws/\V b.wl ≠ []/\b.nb.low=foldOf f (V b.wl))/\(b.wh ∈ ws/\V b.wh ≠ []/\b.nb.high=foldOf f (U b.wh))
 some2:∀ w ∈ ws,V w ≠ []->b.nb.some=true/\b.nb.low<=foldOf f (V w)/\foldOf f (U w)<=b.nb.high
 some0:b.nb.some=false->b.nb.low=0/\b.nb.high=0
theorem takeM_true (no:Bool) (lo hi:Int) (wn wl wh w:Way) (A B:Int) :
  takeM ⟨⟨true,no,lo,hi⟩,wn,wl,wh⟩ w A B = ⟨⟨true,no,minI lo A,maxI hi B⟩,wn,if A < lo then w else wl,if hi < B then w else wh⟩:=by
 have e:nowM ⟨⟨true,no,lo,hi⟩,wn,wl,wh⟩ A B = ⟨true,no,minI lo A,maxI hi B⟩:=by simp [nowM,farI_low,farI_high]
 rw [takeM,e]
 split
 ·rename_i q
  simp only [NB.mk.injEq,true_and] at q
  have a1:¬ A < lo:=by have:=minI_le lo A;omega
  have a2:¬ hi < B:=by have:=maxI_ge hi B;omega
  simp only [q.1,q.2,a1,a2,if_false]
 ·simp
theorem takeM_false (no:Bool) (lo hi:Int) (wn wl wh w:Way) (A B:Int):takeM ⟨⟨false,no,lo,hi⟩,wn,wl,wh⟩ w A B = ⟨⟨true,no,A,B⟩,wn,w,w⟩:=by
 rw [takeM,if_neg]
 ·simp [nowM]
 ·simp [nowM]
theorem mem_snoc {α:Type} {P:α->Prop} {ws:List α} {w:α} (ha:∀ x ∈ ws,P x) (hb:P w):∀ x ∈ ws ++ [w],P x:=fun x hx=>by
 rcases List.mem_append.1 hx with q | q
 ·exact ha x q
 ·rw [List.mem_singleton] at q;subst q;exact hb
theorem BSpec.take {V U:Way->List Int} {f:Int} {ws:List Way} {b:Bnd} (h:BSpec V U f ws b) {w:Way} (hw:V w ≠ []):BSpec V U f (ws ++ [w]) (takeM b w (foldOf f (V w)) (foldOf f (U w))):=by
 obtain ⟨⟨so,no,lo,hi⟩,wn,wl,wh⟩:=b
 obtain ⟨h1,h2,h3,h4,h5⟩:=h
 simp only at h1 h2 h3 h4 h5
 have hin:∀ x,x ∈ ws->x ∈ ws ++ [w]:=fun x hx=>List.mem_append_left _ hx
 have hself:w ∈ ws ++ [w]:=by simp
 cases so with
 | false =>
  rw [takeM_false]
  refine ⟨fun q=>⟨hin _ (h1 q).1,(h1 q).2⟩,mem_snoc h2 (fun q=>absurd q hw),fun _=>⟨⟨hself,hw,rfl⟩,hself,hw,rfl⟩,mem_snoc (fun x hx q=>?_) (fun _=>⟨rfl,Int.le_refl _,Int.le_refl _⟩),fun q=>(by cases q)⟩
  have:=(h4 x hx q).1;cases this
 | true =>
  rw [takeM_true]
  have m1:=minI_le lo (foldOf f (V w))
  have m2:=maxI_ge hi (foldOf f (U w))
  have k:=h3 rfl
  refine ⟨fun q=>⟨hin _ (h1 q).1,(h1 q).2⟩,mem_snoc h2 (fun q=>absurd q hw),fun _=>⟨?_,?_⟩,mem_snoc (fun x hx q=>?_) (fun _=>⟨rfl,m1.2.1,m2.2.1⟩),fun q=>(by cases q)⟩
  ·simp only
   split
   ·exact ⟨hself,hw,by omega⟩
   ·exact ⟨hin _ k.1.1,k.1.2.1,by rw [<- k.1.2.2];omega⟩
  ·simp only
   split
   ·exact ⟨hself,hw,by omega⟩
   ·exact ⟨hin _ k.2.1,k.2.2.1,by rw [<- k.2.2.2];omega⟩
  ·have:=h4 x hx q
   exact ⟨rfl,Int.le_trans m1.1 this.2.1,Int.le_trans this.2.2 m2.1⟩
theorem BSpec.none {V U:Way->List Int} {f:Int} {ws:List Way} {b:Bnd} (h:BSpec V U f ws b) {w:Way} (hw:V w=[]):BSpec V U f (ws ++ [w]) (if b.nb.none=false then { b with nb:={ b.nb with none:=true },wn:=w } else b):=by
 obtain ⟨⟨so,no,lo,hi⟩,wn,wl,wh⟩:=b
 obtain ⟨h1,h2,h3,h4,h5⟩:=h
 simp only at h1 h2 h3 h4 h5
 have hin:∀ x,x ∈ ws->x ∈ ws ++ [w]:=fun x hx=>List.mem_append_left _ hx
 have hself:w ∈ ws ++ [w]:=by simp
 have h3':so=true->(wl ∈ ws ++ [w]/\V wl ≠ []/\lo=foldOf f (V wl))/\(wh ∈ ws ++ [w]/\V wh ≠ []/\hi=foldOf f (U wh)):=fun q=>⟨⟨hin _ (h3 q).1.1,(h3 q).1.2⟩,hin _ (h3 q).2.1,(h3 q).2.2⟩
 cases no with
 | false=>exact ⟨fun _=>⟨hself,hw⟩,mem_snoc (fun _ _ _=>rfl) (fun _=>rfl),h3',mem_snoc h4 (fun q=>absurd hw q),h5⟩
 | true=>exact ⟨fun q=>⟨hin _ (h1 q).1,(h1 q).2⟩,mem_snoc (fun _ _ _=>rfl) (fun _=>rfl),h3',mem_snoc h4 (fun q=>absurd hw q),h5⟩
theorem fold_spec (s:Scene) (F:List Int) (L:List Loose):∀ ws:List Way,BSpec (fun w=>valsM F L w false (sRec s false)) (fun w=>valsM F L w true (sRec s true)) s.sh.fold ws (ws.foldl (stepB s F L) b0):=by
 refine snoc_ind ?_ fun ws w ih=>?_
 ·exact ⟨fun q=>(by cases q),fun _ h=>(by simp at h),fun q=>(by cases q),fun _ h=>(by simp at h),fun _=>⟨rfl,rfl⟩⟩
 ·rw [List.foldl_append]
  simp only [List.foldl_cons,List.foldl_nil]
  rw [stepB]
  split
  ·rename_i q
   exact ih.take (List.length_pos_iff.1 q)
  ·rename_i q
   exact ih.none (List.eq_nil_of_length_eq_zero (by omega))
theorem bound_spec (s:Scene) (F:List Int) (L:List Loose) (P:Nat):BSpec (fun w=>valsM F L w false (sRec s false)) (fun w=>valsM F L w true (sRec s true)) s.sh.fold (waysM P (min P L.length) s.has) (boundM s F L P):=fold_spec s F L _
theorem valsM_len {F:List Int} {L:List Loose} {w:Way} (hw:w.gone+w.turned<=L.length) (g:Bool) (r:Int):(valsM F L w g r).length=F.length+(L.length - (w.gone+w.turned))+(w.turned+w.more):=by
 simp [valsM,keptM_len L w g hw];omega
end Go.Aft
end
section
set_option maxRecDepth 20000
namespace Go.Aft
def IsRec (sh:Shape) (key f:Int) (m:Nat) (r:Rec):Prop:=r.key=key/\f<=r.at_/\r.at_ < f+m/\passM sh r=true
def Can (sh:Shape) (key f:Int) (m:Nat) (u:Int):Prop:=∃ r,IsRec sh key f m r/\r.val=u
theorem firstP_some {sh:Shape} {key v:Int}:∀ {m:Nat} {f:Int} {r:Rec},firstP sh key v f m=some r->IsRec sh key f m r/\r.val=v
 | 0,f,r,h=>by simp [firstP] at h
 | m+1,f,r,h=>by
  rw [firstP] at h
  split at h
  ·rename_i q
   cases h
   exact ⟨⟨rfl,Int.le_refl _,by simp only;omega,q⟩,rfl⟩
  ·obtain ⟨⟨h1,h2,h3,h4⟩,h5⟩:=firstP_some h
   exact ⟨⟨h1,by omega,by omega,h4⟩,h5⟩
theorem firstP_none {sh:Shape} {key v:Int}:∀ {m:Nat} {f:Int},firstP sh key v f m=none->¬ Can sh key f m v
 | 0,f,h=>by rintro ⟨r,⟨_,h2,h3,_⟩,_⟩;omega
 | m+1,f,h=>by
  rw [firstP] at h
  split at h
  ·cases h
  ·rename_i q
   rintro ⟨⟨t,k,u⟩,⟨h1,h2,h3,h4⟩,h5⟩
   simp only at h1 h2 h3 h5
   subst h1;subst h5
   by_cases e:t=f
   ·subst e;exact q h4
   ·exact firstP_none h ⟨⟨t,k,u⟩,⟨rfl,by simp only;omega,by simp only;omega,h4⟩,rfl⟩
structure CSpec (sh:Shape) (key f:Int) (m:Nat) (s s':Scene) (v e:Int):Prop where
 none:(∀ u,v<=u->u < e->¬ Can sh key f m u)->s'.has=s.has/\s'.low=s.low/\s'.high=s.high
 has:∀ u,v<=u->u < e->Can sh key f m u->s'.has=true/\u<=s'.high.val/\(s.has=false->s'.low.val<=u)
 old:s.has=true->s'.low=s.low/\s'.has=true
 low:s'.has=true->s.has=false->IsRec sh key f m s'.low/\v<=s'.low.val/\s'.low.val < e
 high:s'.has=true->s.has=false->IsRec sh key f m s'.high/\v<=s'.high.val/\s'.high.val < e
 high':s'.high=s.high \/ IsRec sh key f m s'.high/\v<=s'.high.val/\s'.high.val < e
theorem comeM_spec {sh:Shape} {key f:Int} {m:Nat}:∀ (k:Nat) (s:Scene) (v:Int),s.sh=sh->CSpec sh key f m s (comeM f key m s v k) v (v+k)
 | 0,s,v,hs=>⟨fun _=>⟨rfl,rfl,rfl⟩,fun u h1 h2=>(by omega),fun h=>⟨rfl,h⟩,fun h1 h2=>(by simp only [comeM] at h1;rw [h2] at h1;cases h1),fun h1 h2=>(by simp only [comeM] at h1;rw [h2] at h1;cases h1),.inl rfl⟩
 | k+1,s,v,hs=>by
  rw [comeM,hs]
  cases hf:firstP sh key v f m with
  | none =>
   have ih:=comeM_spec k s (v+1) hs (key:=key) (f:=f) (m:=m)
   have hn:=firstP_none hf
   simp only [comeO]
   have he:v+1+(k:Int)=v+((k+1:Nat):Int):=by omega
   rw [he] at ih
   refine ⟨fun h=>ih.none fun u h1 h2=>h u (by omega) h2,fun u h1 h2 hc=>ih.has u ?_ h2 hc,ih.old,fun h1 h2=>?_,fun h1 h2=>?_,?_⟩
   ·rcases Int.lt_or_eq_of_le h1 with q | q
    ·omega
    ·subst q;exact absurd hc hn
   ·obtain ⟨a,b,c⟩:=ih.low h1 h2;exact ⟨a,by omega,c⟩
   ·obtain ⟨a,b,c⟩:=ih.high h1 h2;exact ⟨a,by omega,c⟩
   ·rcases ih.high' with q | ⟨a,b,c⟩
    ·exact .inl q
    ·exact .inr ⟨a,by omega,c⟩
  | some r =>
   obtain ⟨hr,hv⟩:=firstP_some hf
   have ih:=comeM_spec k (comeS s r) (v+1) hs (key:=key) (f:=f) (m:=m)
   have he:v+1+(k:Int)=v+((k+1:Nat):Int):=by omega
   rw [he] at ih
   simp only [comeO]
   obtain ⟨o1,o2⟩:=ih.old rfl
   have hh:IsRec sh key f m (comeM f key m (comeS s r) (v+1) k).high/\v<=(comeM f key m (comeS s r) (v+1) k).high.val/\(comeM f key m (comeS s r) (v+1) k).high.val < v+((k+1:Nat):Int):=by
    rcases ih.high' with q | ⟨a,b,c⟩
    ·rw [q];exact ⟨hr,by simp only [comeS];omega,by simp only [comeS];omega⟩
    ·exact ⟨a,by omega,c⟩
   have hl:s.has=false->(comeS s r).low=r:=fun q=>by simp [comeS,q]
   refine ⟨fun h=>absurd ⟨r,hr,hv⟩ (h v (Int.le_refl _) (by omega)),fun u h1 h2 hc=>⟨o2,?_,fun q=>?_⟩,fun q=>⟨?_,o2⟩,fun _ q=>?_,fun _ _=>hh,.inr hh⟩
   ·by_cases e:v+1<=u
    ·exact (ih.has u e h2 hc).2.1
    ·have:u=v:=by omega
     subst this;exact hh.2.1
   ·rw [o1,hl q];omega
   ·rw [o1];simp [comeS,q]
   ·rw [o1,hl q];exact ⟨hr,by omega,by omega⟩
def canV (sh:Shape) (room:Room) (window key mark:Int) (u:Int):Prop :=
 room.low<=u/\u<=room.high/\∃ t,maxI (window - sh.n+1) mark<=t/\t<=window/\passM sh ⟨t,key,u⟩=true
structure SSpec (sh:Shape) (room:Room) (window key mark:Int) (s:Scene):Prop where
 has:∀ u,canV sh room window key mark u->s.has=true/\s.low.val<=u/\u<=s.high.val
 low:s.has=true->canV sh room window key mark s.low.val/\s.low.key=key/\maxI (window - sh.n+1) mark<=s.low.at_/\s.low.at_<=window/\passM sh s.low=true
 high:s.has=true->canV sh room window key mark s.high.val/\s.high.key=key/\maxI (window - sh.n+1) mark<=s.high.at_/\s.high.at_<=window/\passM sh s.high=true
 sh:s.sh=sh
 room:s.room=room
theorem scene_spec (l:List News) (sh:Shape) (room:Room) (window key:Int) (m:Nat):SSpec sh room window key (markM l sh.src) (sceneM l sh room window key m):=by
 have h:=comeM_spec (sh:=sh) (key:=key) (f:=maxI (window - sh.n+1) (markM l sh.src)) (m:=(window - maxI (window - sh.n+1) (markM l sh.src)+1).toNat) (room.high - room.low+1).toNat
  (scene0 sh room (sl ((fixedM l sh window key (standsM l)).map rI)) (sl ((sortL (looseM l sh window key (standsM l))).map rLoose)) m) room.low rfl
 have hk:=comeM_keep (maxI (window - sh.n+1) (markM l sh.src)) key (window - maxI (window - sh.n+1) (markM l sh.src)+1).toNat (room.high - room.low+1).toNat (scene0 sh room (sl ((fixedM l sh window key (standsM l)).map rI)) (sl ((sortL (looseM l sh window key (standsM l))).map rLoose)) m) room.low
 rw [<- sceneM] at h hk
 have hc:∀ {u r:_},IsRec sh key (maxI (window - sh.n+1) (markM l sh.src)) (window - maxI (window - sh.n+1) (markM l sh.src)+1).toNat r->r.val=u->room.low<=u->u<=room.high->canV sh room window key (markM l sh.src) u/\r.key=key/\maxI (window - sh.n+1) (markM l sh.src)<=r.at_/\r.at_<=window/\passM sh r=true:=by
  rintro u ⟨t,k,v⟩ ⟨h1,h2,h3,h4⟩ h5 h6 h7
  simp only at h1 h2 h3 h5
  subst h1;subst h5
  exact ⟨⟨h6,h7,t,h2,by omega,h4⟩,rfl,h2,by simp only;omega,h4⟩
 refine ⟨fun u hu=>?_,fun q=>?_,fun q=>?_,hk.2.2.2.1,hk.2.2.2.2⟩
 ·obtain ⟨h1,h2,t,h3,h4,h5⟩:=hu
  have:=h.has u h1 (by omega) ⟨⟨t,key,u⟩,⟨rfl,h3,by simp only;omega,h5⟩,rfl⟩
  exact ⟨this.1,this.2.2 rfl,this.2.1⟩
 ·obtain ⟨h1,h2,h3⟩:=h.low q rfl
  exact hc h1 rfl h2 (by omega)
 ·obtain ⟨h1,h2,h3⟩:=h.high q rfl
  exact hc h1 rfl h2 (by omega)
end Go.Aft
end
section
set_option maxRecDepth 20000
namespace Go.Aft
open Go.Proofs.Tryz
def lateOne (src:Int) (room:Room) (n:News):Bool:=decide (n.src=src) && !(decide (n.do_=1) && !inB n.rec_.val room.low room.high)
def manyE (l:List News):Nat:=(l.filter fun n=>decide (n.do_ ≠ 3)).length
def lateNB (l more:List News) (srcs src:Int) (room:Room):Bool:=more.all (lateOne src room) && decide ((manyE more:Int)<=room.most) && keptB (l ++ more) srcs
theorem ref17_LateNews (l more:List News) (hlm:l.length<=1000/\more.length<=1000) (srcs src:Int) (room:Room):AFun prog 34 [sl (l.map rNews),sl (more.map rNews),lvI srcs,lvI src,lv (rRoom room)] (.d (.k (.bool (lateNB l more srcs src room)))):=by
 have cc:=cxK_ok (p:=kds [9] [] [])
 refine AFun.bodyW (cxK_ok (p:=kds [9] [] [])) func34 rfl call34 (by rw [ntmps34];simp) rfl fun hf H=>?_
 have hke:=ref17_Kept (l ++ more) srcs
 simp [ntmps34,results34,rRoom] at hf |-
 refine AW.seq cc ?_
 simp
 refine AW.seq cc ?_
 simp
 refine AW.seq cc ?_
 simp
 refine AW.loopS cc (fun k:Nat=>⟨[(0,.d (.sl (l.map rNews))),(1,.d (.sl (more.map rNews))),(2,lvI srcs),(3,lvI src),(9,.ip [lvI room.most,lvI room.low,lvI room.high] 0),(11,lvI (manyE (more.take k):Nat)),(12,lvI k)],[],H⟩) (fun k=>more.length - k) (fun k=>k<=more.length/\(more.take k).all (lateOne src room)=true) 0 ⟨by simp,by simp [manyE]⟩ ?_
 rintro k ⟨hk,hI⟩
 simp
 refine ⟨fun h=>?_,fun h=>?_⟩
 ·have htk:(more.take (k+1)).all (lateOne src room)=((more.take k).all (lateOne src room) && lateOne src room more[k]):=by rw [take_succ_get h,List.all_append];simp
  have hmt:manyE (more.take (k+1))=manyE (more.take k)+if more[k].do_=3 then 0 else 1:=by
   rw [take_succ_get h,manyE,manyE,List.filter_append,List.length_append]
   congr 1
   by_cases e:more[k].do_=3 <;> simp [e]
  have hmk:manyE (more.take k)<=1000:=by
   have h1:=List.length_filter_le (fun n:News=>decide (n.do_ ≠ 3)) (more.take k)
   have h2:=List.length_take_le k more
   rw [manyE];omega
  have hno:lateOne src room more[k]=false->lateNB l more srcs src room=false:=fun q=>by
   have:more.all (lateOne src room)=false:=by
    rw [List.all_eq_false];exact ⟨more[k],List.getElem_mem h,by simp [q]⟩
   simp [lateNB,this]
  have hgo:lateOne src room more[k]=true->(more.take (k+1)).all (lateOne src room)=true:=fun q=>by rw [htk,hI,q];rfl
  have hwm:IntKind.wrap .i64 ((manyE (more.take k):Int)+1)=(manyE (more.take k):Int)+1:=by rw [wrap64] <;> omega
  have hwk:IntKind.wrap .i64 ((k:Int)+1)=(k:Int)+1:=by rw [wrap64] <;> omega
  by_cases e1:more[k].src=src
  ·by_cases e2:more[k].do_=1
   ·simp [h,List.getElem?_eq_getElem h,rNews,rRec,e1,e2]
    refine EC.afun (ref17_in _ _ _) ?_
    cases e3:inB more[k].rec_.val room.low room.high with
    | false =>
     rw [hno (by simp [lateOne,e1,e2,e3])]
     simp
    | true =>
     have q:=hgo (by simp [lateOne,e1,e2,e3])
     simp [e2]
     exact NX.go (k+1) (Nat.sub_lt_sub_left h (Nat.lt_succ_self k)) ⟨h,q⟩ (by simp [hmt,e2,hwm,hwk])
   ·have q:=hgo (by simp [lateOne,e1,e2])
    have e2b:(more[k].do_ == 1)=false:=by simpa using e2
    simp [h,List.getElem?_eq_getElem h,rNews,rRec,e1,e2,e2b]
    refine ⟨fun e3=>NX.go (k+1) (Nat.sub_lt_sub_left h (Nat.lt_succ_self k)) ⟨h,q⟩ (by simp [hmt,e3,hwm,hwk]),fun e3=>NX.go (k+1) (Nat.sub_lt_sub_left h (Nat.lt_succ_self k)) ⟨h,q⟩ (by simp [hmt,e3,hwk])⟩
  ·rw [hno (by simp [lateOne,e1])]
   have e1b:(more[k].src != src)=true:=by simpa using e1
   cases e2b:(more[k].do_ == 1) with
   | true =>
    simp [h,List.getElem?_eq_getElem h,rNews,rRec,e1,e1b,e2b]
   | false =>
    simp [h,List.getElem?_eq_getElem h,rNews,rRec,e1,e1b,e2b]
 ·have:k=more.length:=by omega
  subst this
  rw [List.take_length] at hI |-
  refine AW.ev cc ?_
  by_cases hm:(manyE more:Int)<=room.most
  ·have ob:∀ o,(H.add o).obj H.next=some o:=fun o=>by simp [GH.add_obj]
   have hrl:∀ a:News,(rNews a).length=7:=fun _=>rfl
   have hl1:l.length * 56<=140737488355328/\l.length<=140737488355328:=by omega
   have hl2:(l.length+more.length) * 56<=140737488355328/\l.length+more.length<=140737488355328:=by omega
   simp [hm,ob,hrl,hl1,hl2,GH.add_set,LV.nb]
   refine ⟨by rw [GH.add_next];exact Nat.lt_succ_self _,EC.afun (AFun.fzA (v:=.d (.k (.bool (keptB (l ++ more) srcs)))) (by simp only [fzs,fz];rw [<- List.map_append];exact hke)) ?_⟩
   simp [lateNB,hI,hm]
   exact ⟨by rw [GH.add_next];omega,fun m hm=>by rw [GH.add_obj,if_neg (by omega)]⟩
  ·simp [hm,lateNB]
noncomputable def lateAllB (p:Prog) (l more:List News) (d:Int) (room:Room):Bool:=match plainV p d with
 | .tup [.d (.k (.int _ src)),_,.d (.k (.int _ e))]=>decide (e=0) && lateNB l more p.srcs.length src room
 | _=>false
end Go.Aft
end
section
set_option maxRecDepth 20000
namespace Go.Aft
open Go.Proofs.Tryz
theorem ref17_Room (r:Room):AFun prog 66 [lv (rRoom r)] (.d (.k (.bool (roomB r)))):=by
 have cc:=cxK_ok (p:=kds [1] [] [])
 refine AFun.bodyW (cxK_ok (p:=kds [1] [] [])) func66 rfl call66 (by rw [ntmps66];simp) rfl fun hf H=>?_
 simp [ntmps66,results66,rRoom] at hf |-
 refine AW.seq cc ?_
 simp
 refine AW.ev cc ?_
 simp
 refine EC.afun (ref17_in _ _ _) ?_
 cases h1:inB r.most 0 6 with
 | false=>simp [roomB,h1]
 | true =>
  simp
  refine EC.afun (ref17_in _ _ _) ?_
  cases h2:inB r.low (-1000000000) 1000000000 with
  | false=>simp [roomB,h1,valB,h2]
  | true =>
   simp
   refine EC.afun (ref17_in _ _ _) ?_
   have hl:-1000000000<=r.low/\r.low<=1000000000:=by simp [inB] at h2;exact h2
   cases h3:inB r.high r.low 1000000000 with
   | false =>
    have:roomB r=false:=by
     rw [Bool.eq_false_iff];intro q
     simp [roomB,valB,inB] at q
     have:inB r.high r.low 1000000000=true:=by simp [inB];omega
     rw [this] at h3;cases h3
    simp [this]
   | true =>
    have hh:r.low<=r.high/\r.high<=1000000000:=by simp [inB] at h3;exact h3
    have hw:IntKind.wrap .i64 (r.high - r.low)=r.high - r.low:=by rw [wrap64] <;> omega
    simp [hw]
    have hm:0<=r.most/\r.most<=6:=by simp [inB] at h1;exact h1
    rw [Bool.eq_iff_iff]
    simp [roomB,valB,inB,hw]
    try rw [hw]
    omega
end Go.Aft
end
section
set_option maxRecDepth 20000
namespace Go.Aft
open Go.Proofs.Tryz
def caseL (sh:Shape) (mark window key:Int):LV:=.agg ((rShape sh).map .d ++ [lvI mark,lvI window,lvI key])
noncomputable def askE (p:Prog) (d:Int) (l:List News) (room:Room) (window key:Int):Int :=
 if askedB p d l room key=true then lookE (plainOf p (p.defs.getD d.toNat default).exp) l.length room window else 2
theorem ref17_Asked (p:Prog) (hs:fitP p) (d:Int) (l:List News) (room:Room) (window key:Int) (H:GH) :
  ECall prog 33 [lv (rProg p),lvI d,sl (l.map rNews),lv (rRoom room),lvI window,lvI key] H fun ce H'=>(∃ (x y z m w k:Int) (t:DV),ce=.ret (.tup [.agg [lvI x,lvI y,lvI z,.d t,lvI m,lvI w,lvI k],lvI (askE p d l room window key)]))/\H'=H:=by
 have cc:=cxK_ok (p:=kds [6,9] [] [])
 refine ECall.bodyNW (cxK_ok (p:=kds [6,9] [] [])) func33 rfl call33 (by rw [ntmps33];simp) rfl fun hf hw=>?_
 have hd:=ref02_Def p hs d
 have hk:=ref17_Kept l p.srcs.length
 have hr:=ref17_Room room
 simp [rProg,rRoom] at hd hk hr
 simp [ntmps33,results33,rProg,rRoom] at hf |-
 refine AW.seq cc ?_
 simp
 refine AW.seq cc ?_
 simp
 refine EC.afun hd ?_
 by_cases q:isDefM p d
 rotate_left
 ·have:askE p d l room window key=2:=by rw [askE,if_neg];simp [askedB,q]
  simp [q,this]
  exact fun hz=>hz.drop (Nat.le_refl _)
 ·simp [q]
  refine EC.afun hk ?_
  have hno:∀ b:Bool,askedB p d l room key=b->b=false->askE p d l room window key=2:=fun b h1 h2=>by rw [askE,h1,h2];simp
  have hkk:keptB l p.srcs.length=(formedB l p.srcs.length && decide (lateM l=[])):=rfl
  cases k1:keptB l p.srcs.length with
  | false =>
   have:askE p d l room window key=2:=hno _ rfl (by
    rw [keptB] at k1
    simp only [askedB,q,decide_true,Bool.true_and,k1,Bool.false_and])
   simp [this]
   exact fun hz=>hz.drop (Nat.le_refl _)
  | true =>
   simp
   refine EC.afun hr ?_
   cases k2:roomB room with
   | false =>
    have:askE p d l room window key=2:=hno _ rfl (by simp [askedB,k2])
    simp [this]
    exact fun hz=>hz.drop (Nat.le_refl _)
   | true =>
    simp
    refine EC.afun (ref17_in _ _ _) ?_
    cases k3:inB key (-1000000000) 1000000000 with
    | false =>
     have:askE p d l room window key=2:=hno _ rfl (by simp [askedB,valB,k3])
     simp [this]
     exact fun hz=>hz.drop (Nat.le_refl _)
    | true =>
     simp
     have hq:askedB p d l room key=true:=by
      rw [keptB] at k1
      simp only [askedB,q,decide_true,Bool.true_and,k1,k2,valB,k3]
     have hdl:d.toNat < p.defs.length:=by have:=q.2;omega
     have hgd:p.defs.getD d.toNat default=p.defs[d.toNat]:=by simp [List.getD,List.getElem?_eq_getElem hdl]
     have hE:askE p d l room window key=lookE (plainOf p p.defs[d.toNat].exp) l.length room window:=by rw [askE,if_pos hq,hgd]
     have hs2:=ref17_plainOf p d.toNat hdl fun h8=>by
      obtain ⟨k,hk,hw,_⟩:=formed_fold q.1 hdl h8;exact ⟨k,[],hk,hw⟩
     rw [show ((d.toNat:Nat):Int)=d by have:=q.2;omega] at hs2
     have hpl:=formed_plain q.1 hdl
     simp [rProg,rShape] at hs2
     refine AW.seq cc ?_
     simp
     refine EC.afun hs2 ?_
     rw [hE]
     generalize plainOf p p.defs[d.toNat].exp=y at hpl |-
     obtain ⟨sh,b⟩:=y
     simp
     refine AW.seq cc ?_
     cases b with
     | false =>
      simp [lookE]
      exact fun hz=>hz.drop (Nat.le_refl _)
     | true =>
      have hpl:=hpl rfl
      dsimp only at hpl
      simp
      have hg:=formed_good (l:=l) (srcs:=p.srcs.length) (by rw [keptB] at k1;simp at k1;exact k1.1)
      have hfm:formedB l p.srcs.length=true:=by rw [keptB] at k1;simp at k1;exact k1.1
      simp only [formedB,plainB,Bool.and_eq_true,decide_eq_true_eq] at hfm
      have hs4:(1:Int)<=p.srcs.length/\(p.srcs.length:Int)<=4:=by have:=hfm.1.1.1;simp [inB] at this;exact this
      have hmk:=ref05_MarksOf l p.srcs.length hs4 hg
      refine AW.seq cc ?_
      simp
      refine EC.afun (ref17_in _ _ _) ?_
      cases c1:inB window 0 200 with
      | false =>
       simp [lookE,c1]
       exact fun hz=>hz.drop (Nat.le_refl _)
      | true =>
       have hw1:0<=window/\window<=200:=by simp [inB] at c1;exact c1
       have hww:IntKind.wrap .i64 (window+1)=window+1:=by rw [wrap64] <;> omega
       have hn0:¬ sh.n=0:=by omega
       by_cases c2:(window+1).tmod sh.n=0
       rotate_left
       ·simp [hww,hn0,c2]
        exact fun hz=>⟨hz.drop (Nat.le_refl _),by simp [lookE,c1,c2]⟩
       ·simp [hww,hn0,c2]
        have hm6:0<=room.most/\room.most<=6:=by
         simp [roomB,inB] at k2;exact k2.1.1.1
        have hll:=hfm.1.1.2
        have hlw:IntKind.wrap .i64 ((l.length:Int)+room.most)=(l.length:Int)+room.most:=by rw [wrap64] <;> omega
        refine AW.seq cc ?_
        simp [hlw]
        by_cases c3:60 < (l.length:Int)+room.most
        ·simp [c3]
         exact ⟨fun hz=>⟨hz.drop (Nat.le_refl _),by simp [lookE,c1,c2,c3]⟩,fun q=>absurd c3 (by omega)⟩
        ·simp [c3]
         refine fun _=>?_
         obtain ⟨ms,hms⟩:∃ ms,List.map rI (List.map (fun k:Nat=>markM l (k:Nat)) (List.range ((p.srcs.length:Int)).toNat))=ms:=⟨_,rfl⟩
         have hsn:sh.src.toNat < p.srcs.length:=by omega
         have hmg:ms[sh.src.toNat]?=some (rI (markM l sh.src)):=by
          rw [<- hms]
          have e:((sh.src.toNat:Nat):Int)=sh.src:=by omega
          simp [hsn,e]
         have hml:ms.length=p.srcs.length:=by rw [<- hms];simp
         rw [hms] at hmk
         simp at hmk
         refine AW.seq cc ?_
         refine AW.draw cc [(5,.n)] (.q 1<|.q 2<|.q 6<|.q 10<|.q 11<|.q 0<|.q 3<|.q 4<|.q 5<|.q 7<|.q 8<|.q 9<|.q 12<|.f<|.one 13<|.q 14<|.done) (by kernel_rfl) ?_
         simp
         refine FC.afun hmk ?_
         have hm1:∀ hh:sh.src.toNat < ms.length,ms[sh.src.toNat]'hh=rI (markM l sh.src):=fun hh=>by
          rw [List.getElem?_eq_getElem hh] at hmg;exact Option.some.inj hmg
         simp [hm1,hml,hsn,rI]
         refine ⟨⟨by omega,by omega⟩,AW.ev cc ?_⟩
         simp
         exact fun hz=>⟨hz.drop (Nat.le_refl _),by simp [lookE,c1,c2,c3]⟩
end Go.Aft
end
section
set_option maxRecDepth 20000
namespace Go.Aft
theorem askE_zero {p:Prog} {d:Int} {l:List News} {room:Room} {window key:Int} (h:askE p d l room window key=0) :
  askedB p d l room key=true/\lookE (plainOf p (p.defs.getD d.toNat default).exp) l.length room window=0/\ofM p d l room window key=(boundV p d.toNat l room window key,0):=by
 rw [askE] at h
 split at h
 ·rename_i q
  exact ⟨q,h,by rw [ofM,if_pos q,if_pos h]⟩
 ·cases h
def bndM (l:List News) (sh:Shape) (room:Room) (window key:Int):Bnd :=
 boundM (sceneM l sh room window key 0) (fixedM l sh window key (standsM l)) (sortL (looseM l sh window key (standsM l))) room.most.toNat
theorem boundV_eq (p:Prog) (d:Nat) (l:List News) (room:Room) (window key:Int):boundV p d l room window key=(bndM l (plainOf p (p.defs.getD d default).exp).1 room window key).nb:=rfl
theorem way_room {P mn:Nat} {can:Bool} {w:Way}:w ∈ waysM P mn can ↔ w.gone+w.turned<=mn/\w.gone+w.turned+w.more<=P/\(can=true \/ w.turned+w.more=0):=by
 rw [waysM_mem]
 constructor
 ·rintro (h | ⟨_,_,h⟩)
  ·exact h
  ·exact h.elim
 ·exact .inl
def shD (p:Prog) (d:Int):Shape:=(plainOf p (p.defs.getD d.toNat default).exp).1
theorem askE_facts {p:Prog} {d:Int} {l:List News} {room:Room} {window key:Int} (h:askE p d l room window key=0) :
  isDefM p d/\(plainOf p (p.defs.getD d.toNat default).exp).2=true/\formedB l p.srcs.length=true/\lateM l=[]/\roomB room=true/\l.length+room.most<=60 /\
  plainV p d=.tup [lvI (shD p d).src,lvI (shD p d).n,lvI 0]/\ofM p d l room window key=((bndM l (shD p d) room window key).nb,0)/\inB window 0 200=true/\1<=(shD p d).n/\(shD p d).n<=50:=by
 obtain ⟨h1,h2,h3⟩:=askE_zero h
 simp only [askedB,Bool.and_eq_true,decide_eq_true_eq] at h1
 obtain ⟨⟨⟨⟨a1,a2⟩,a3⟩,a4⟩,a5⟩:=h1
 have hd:d.toNat < p.defs.length:=by have:=a1.2;omega
 have hgd:p.defs.getD d.toNat default=p.defs[d.toNat]:=by simp [List.getD,List.getElem?_eq_getElem hd]
 have hq:(plainOf p (p.defs.getD d.toNat default).exp).2=true:=by
  unfold lookE at h2
  split at h2
  ·cases h2
  ·rename_i q
   cases hb:(plainOf p (p.defs.getD d.toNat default).exp).2 with
   | true=>rfl
   | false=>exact absurd hb q
 have hpl:=formed_plain a1.1 hd (by rw [<- hgd];exact hq)
 unfold lookE at h2
 rw [if_neg (by rw [hq];simp)] at h2
 split at h2
 ·cases h2
 rename_i h2w
 split at h2
 ·cases h2
 ·rename_i q
  refine ⟨a1,hq,a2,a3,a4,by omega,?_,by rw [h3,boundV_eq];rfl,?_,?_⟩
  ·unfold plainV shD
   rw [dif_pos a1,hgd]
   rw [hgd] at hq
   generalize plainOf p p.defs[d.toNat].exp=z at hq |-
   obtain ⟨z1,z2⟩:=z
   simp only at hq;subst hq;rfl
  ·simp only [Bool.not_eq_false,Bool.and_eq_true] at h2w;exact h2w.1
  ·unfold shD;rw [hgd];exact ⟨hpl.1,hpl.2.1⟩
theorem roomB_most {r:Room} (h:roomB r=true):0<=r.most/\r.most<=6:=by
 simp [roomB,inB] at h;exact h.1.1.1
end Go.Aft
end
