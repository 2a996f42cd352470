import Derived.Test.YtdhphbedajhmnaaGreatA35
import Derived.Test.YtdhphbedajhmnaaGreatA37
set_option linter.all false
section
set_option maxRecDepth 20000
namespace Go.Aft
open Go.Proofs.Tryz
open Go.Sort (swp insInner insOuter insertionSort SWO PermIn SortedIn)
def cmpL (a b:Loose):Int:=a.ev.rec_.val - b.ev.rec_.val
theorem cmpL_swo:SWO (ltOf' cmpL) where
 irrefl x:=by simp [ltOf',cmpL]
 trans x y z h1 h2:=by
  have a:cmpL x y < 0:=by simpa [ltOf'] using h1
  have b:cmpL y z < 0:=by simpa [ltOf'] using h2
  have:cmpL x z < 0:=by unfold cmpL at *;omega
  simpa [ltOf'] using this
 ntrans x y z h1 h2:=by
  have a:¬ cmpL x y < 0:=by simpa [ltOf'] using h1
  have b:¬ cmpL y z < 0:=by simpa [ltOf'] using h2
  have:¬ cmpL x z < 0:=by unfold cmpL at *;omega
  simpa [ltOf'] using this
def sortL (xs:List Loose):List Loose:=(insertionSort (ltOf' cmpL) xs.toArray 0 xs.length).toList
theorem sortL_len (xs:List Loose):(sortL xs).length=xs.length:=by
 have:=(Go.Sort.insertionSort_holds cmpL_swo xs.toArray 0 xs.toArray.size (Nat.zero_le _) (Nat.le_refl _)).1.1
 simpa [sortL] using this
theorem sortL_eq (xs:List Loose):sortL xs=isort (ltOf' cmpL) xs:=by
 have:=insertionSort_list cmpL_swo [] xs [] (a:=0) (b:=xs.length) rfl (by simp)
 simp only [List.nil_append,List.append_nil] at this
 rw [sortL,this]
theorem loose_sort (xs:List Loose) (hlen:xs.length<=1000) (hv:∀ x ∈ xs,inMost x.ev.rec_.val) (z:LV) (B H:GH) (hz:VApp 181 6 B z (xs.map rLoose) H) :
  ECall prog 100 [z,.fn (.func 101) [] []] H fun ce H'=>(∃ v,ce=.ret v)/\VApp 181 6 B z ((sortL xs).map rLoose) H'/\H.next<=H'.next/\∀ m,m < H.next->(∀ g i l,z ≠ .vs m g 6 i l)->H'.obj m=H.obj m:=by
 have hcap:∀ n,nbs n ([]:List LV):=fun n=>by simp [nbs]
 rcases id hz.is with ⟨e1,e2⟩ | ⟨n,g,q1,q2,q3,q4,q5⟩
 ·have hxs:xs=[]:=by simpa using e1
  subst hxs;subst e2
  refine (loose_SortStable0 101 [] hcap H).mono fun ce H' hR=>?_
  obtain ⟨rfl,rfl⟩:=hR
  exact ⟨⟨_,rfl⟩,by simpa [sortL,insertionSort,Go.Sort.insOuter] using hz,Nat.le_refl _,fun _ _ _=>rfl⟩
 ·have hxs:xs ≠ []:=by simpa using q5
  subst q3
  have hs:=loose_SortStable (fun x=>inMost x.ev.rec_.val) cmpL cmpL_swo 101 [] hcap (fun a b ha hb=>by simpa [cmpL] using near_look1 a b ha hb) xs hv hlen n g false H (by simpa [vecO,rowsV] using q4)
  rw [<- sortL_eq] at hs
  simp at hs |-
  refine hs.mono fun ce H' hR=>?_
  obtain ⟨hr,rfl⟩:=hR
  refine ⟨hr,⟨.inr ⟨n,g,q1,q2,by simp [sortL_len],?_,?_⟩,hz.nx,fun m hm=>?_⟩,by rw [GH.set_next];exact Nat.le_refl _,fun m hm hne=>?_⟩
  ·rw [GH.set_same];simp [vecO,rowsV,sortL]
  ·intro q
   have:=congrArg List.length q
   simp [sortL_len] at this
   exact hxs this
  ·rw [GH.set_obj,if_neg (by omega)];exact hz.ob m hm
  ·rw [GH.set_obj,if_neg]
   intro e;subst e;exact hne g 0 xs.length rfl rfl rfl rfl
theorem sceneO_thaw (s:Scene) (m0:Nat) (hv:s.vers=.gm m0) (n g sz:Nat) (rows:List (List DV)):(sceneO s).thaw n g sz rows=sceneO { s with vals:=s.vals.thaw n g sz rows,loose:=s.loose.thaw n g sz rows }:=by
 simp [sceneO,GO.thaw,thaws,LV.thaw,rShape,rRoom,rRec,hv]
theorem sceneO_weak {G:Gh} {nx:Nat} (s:Scene) (y z:LV) (hy:∀ v,LR G nx noL s.vals v->LR G nx noL y v) (hz:∀ v,LR G nx noL s.loose v->LR G nx noL z v) (vs:List Value)
  (h:LRs G nx noL ((rShape s.sh).map .d ++ (rRoom s.room).map .d ++ [s.vals,s.loose,.d (.k (.bool s.has))] ++ (rRec s.low).map .d ++ (rRec s.high).map .d ++ [s.vers]) vs) :
  LRs G nx noL ((rShape s.sh).map .d ++ (rRoom s.room).map .d ++ [y,z,.d (.k (.bool s.has))] ++ (rRec s.low).map .d ++ (rRec s.high).map .d ++ [s.vers]) vs:=by
 refine LRs_of_get (by rw [LRs_length h];simp) fun i x v hx hvv=>?_
 by_cases e7:i=7
 ·subst e7
  obtain ⟨v',h1,h2⟩:=LRs_get h 7 s.vals rfl
  rw [h1] at hvv;cases hvv
  have:x=y:=by simpa [rShape,rRoom,rRec] using hx.symm
  rw [this];exact hy _ h2
 ·by_cases e8:i=8
  ·subst e8
   obtain ⟨v',h1,h2⟩:=LRs_get h 8 s.loose rfl
   rw [h1] at hvv;cases hvv
   have:x=z:=by simpa [rShape,rRoom,rRec] using hx.symm
   rw [this];exact hz _ h2
  ·have hx':((rShape s.sh).map LV.d ++ (rRoom s.room).map LV.d ++ [s.vals,s.loose,.d (.k (.bool s.has))] ++ (rRec s.low).map LV.d ++ (rRec s.high).map LV.d ++ [s.vers])[i]?=some x:=by
    have hi:i < 17:=by
     have:=(List.getElem?_eq_some_iff.1 hx).1
     simpa [rShape,rRoom,rRec] using this
    rw [<- hx]
    simp only [rShape,rRoom,rRec,List.map_cons,List.map_nil,List.cons_append,List.nil_append]
    match i,hi,e7,e8 with
    | 0,_,_,_ | 1,_,_,_ | 2,_,_,_ | 3,_,_,_ | 4,_,_,_ | 5,_,_,_ | 6,_,_,_ | 9,_,_,_ | 10,_,_,_ | 11,_,_,_ | 12,_,_,_ | 13,_,_,_ | 14,_,_,_ | 15,_,_,_ | 16,_,_,_=>rfl
   obtain ⟨v',h1,h2⟩:=LRs_get h i x hx'
   rw [h1] at hvv;cases hvv
   exact h2
structure FzTo (k:Nat) (N:Nat) (sc:GO) (s s2:S):Prop where
 sc:s2.H.obj k=some sc
 ob:∀ m,m < N->m ≠ k->s2.H.obj m=s.H.obj m
 nx:s.H.next<=s2.H.next
 env:∀ t n off,s.env t=.gp n off->s2.env t=.gp n off
 nt:s2.nt=s.nt
 df:s2.df=s.df
theorem AW.scene_fz1 {P:Program} {rd:RD} {x:Code} {s:S} {Q:QT} {B:GH} {sc:Scene} {m0 k:Nat} {rows:List (List DV)} (hy:VApp 3 1 B sc.vals rows s.H) (hr:∀ r ∈ rows,r.length=1) (hv:sc.vers=.gm m0) (hk:k < B.next) (ho:s.H.obj k=some (sceneO sc))
  (hB:∀ m o,m < B.next->m ≠ k->s.H.obj m=some o->o.nb B.next)
  (h:∀ s2,FzTo k B.next (sceneO { sc with vals:=sl rows,loose:=sc.loose }) s s2->(∀ e g sz rws n,(∀ g' sz' i l,sc.vals ≠ .vs n g' sz' i l)->s.H.obj n=some (.vec e g sz (flatD rws) false)->s2.H.obj n=some (.vec e g sz (flatD rws) false)) ->
   (∀ n' g' sz' i l,sc.loose=.vs n' g' sz' i l->∀ g i' l',sc.vals ≠ .vs n' g 1 i' l')->@AW P rd ⟨x⟩ s2 Q)
  (hzv:∀ n' g' sz' i l,sc.loose=.vs n' g' sz' i l->∀ g i' l',sc.vals ≠ .vs n' g 1 i' l') (hzp:(∃ n' g' sz' i l,sc.loose=.vs n' g' sz' i l) \/ ∃ d,sc.loose=.d d):@AW P rd ⟨x⟩ s Q:=by
 rcases id hy.is with ⟨e1,e2⟩ | ⟨n,g,q1,q2,q3,q4,q5⟩
 ·subst e1
  refine AW.weak (n:=k) _ ho (fun G nx vs hh=>sceneO_weak sc (.d (.sl [])) sc.loose (fun v hv=>LR_nilS (by rw [nilS,<- e2];exact hv)) (fun v hv=>hv) vs hh) (h _ ⟨by rw [GH.set_same];rfl,fun m hm hne=>by rw [GH.set_obj,if_neg hne],Nat.le_refl _,fun t n off he=>he,rfl,rfl⟩ ?_ hzv)
  intro e g sz rws n hne hn
  rw [GH.set_obj,if_neg]
  ·exact hn
  ·intro e';subst e';rw [ho] at hn;simp [sceneO] at hn
 ·refine AW.thaw (n:=n) (g:=g) (sz:=1) (e:=3) (ex:=false) rows q4 rfl hr (h _ ⟨?_,fun m hm hne=>?_,Nat.le_refl _,fun t n off he=>?_,rfl,rfl⟩ ?_ hzv)
  ·simp only [S.thaw,GH.thaw]
   rw [if_neg (by omega),ho,Option.map_some,sceneO_thaw sc m0 hv]
   congr 3
   ·rw [q3];simp
   ·rcases hzp with ⟨n',g',sz',i,l,e⟩ | ⟨d,e⟩
    ·rw [e];simp only [LV.thaw]
     rw [if_neg]
     rintro ⟨rfl,_⟩
     exact hzv _ _ _ _ _ e _ _ _ q3
    ·rw [e];rfl
  ·simp only [S.thaw,GH.thaw]
   rw [if_neg (by omega)]
   cases hm':s.H.obj m with
   | none=>rfl
   | some o=>rw [Option.map_some,GO.thaw_nb (N:=B.next) q1 (hB m o hm hne hm')]
  ·simp only [S.thaw,he,LV.thaw]
  ·intro e g2 sz rws n2 hne hn
   simp only [S.thaw,GH.thaw]
   rw [if_neg,hn]
   ·simp only [Option.map_some,GO.thaw]
    rw [thaws_nb (N:=0) (Nat.zero_le _) _ (flatD_nbs _ _)]
   ·intro e';subst e';exact hne _ _ _ _ q3
theorem AW.scene_fz2 {P:Program} {rd:RD} {x:Code} {s:S} {Q:QT} {sc:Scene} {m0 k N:Nat} {rows rowsY:List (List DV)} (hz:rows=[]/\sc.loose=nilS \/ ∃ n g,N<=n/\sc.loose=.vs n g 6 0 rows.length/\s.H.obj n=some (.vec 181 g 6 (flatD rows) false)) (hr:∀ r ∈ rows,r.length=6) (hy:sc.vals=sl rowsY) (hv:sc.vers=.gm m0) (hk:k < N) (ho:s.H.obj k=some (sceneO sc))
  (hB:∀ m o,m < N->m ≠ k->s.H.obj m=some o->o.nb N)
  (h:∀ s2,FzTo k N (sceneO { sc with loose:=sl rows }) s s2->@AW P rd ⟨x⟩ s2 Q):@AW P rd ⟨x⟩ s Q:=by
 rcases hz with ⟨e1,e2⟩ | ⟨n,g,q1,q3,q4⟩
 ·subst e1
  refine AW.weak (n:=k) _ ho (fun G nx vs hh=>sceneO_weak sc sc.vals (.d (.sl [])) (fun v hv=>hv) (fun v hv=>LR_nilS (by rw [<- e2];exact hv)) vs hh) (h _ ⟨by rw [GH.set_same];rfl,fun m hm hne=>by rw [GH.set_obj,if_neg hne],Nat.le_refl _,fun t n off he=>he,rfl,rfl⟩)
 ·refine AW.thaw (n:=n) (g:=g) (sz:=6) (e:=181) (ex:=false) rows q4 rfl hr (h _ ⟨?_,fun m hm hne=>?_,Nat.le_refl _,fun t n off he=>?_,rfl,rfl⟩)
  ·simp only [S.thaw,GH.thaw]
   rw [if_neg (by omega),ho,Option.map_some,sceneO_thaw sc m0 hv]
   congr 3
   ·rw [hy];rfl
   ·rw [q3];simp
  ·simp only [S.thaw,GH.thaw]
   rw [if_neg (by omega)]
   cases hm':s.H.obj m with
   | none=>rfl
   | some o=>rw [Option.map_some,GO.thaw_nb (N:=N) q1 (hB m o hm hne hm')]
  ·simp only [S.thaw,he,LV.thaw]
theorem AW.scene_fz {P:Program} {rd:RD} {x:Code} {s:S} {Q:QT} {B:GH} {sc:Scene} {m0 k:Nat} {rows rows':List (List DV)} (hy:VApp 3 1 B sc.vals rows s.H) (hr:∀ r ∈ rows,r.length=1) (hz:VApp 181 6 B sc.loose rows' s.H) (hr':∀ r ∈ rows',r.length=6) (hv:sc.vers=.gm m0) (hk:k < B.next) (ho:s.H.obj k=some (sceneO sc))
  (hB:∀ m o,m < B.next->m ≠ k->s.H.obj m=some o->o.nb B.next)
  (h:∀ s2,FzTo k B.next (sceneO { sc with vals:=sl rows,loose:=sl rows' }) s s2->@AW P rd ⟨x⟩ s2 Q):@AW P rd ⟨x⟩ s Q:=by
 have hdis:∀ n' g' sz' i l,sc.loose=.vs n' g' sz' i l->∀ g i' l',sc.vals ≠ .vs n' g 1 i' l':=by
  intro n' g' sz' i l e g i' l' e'
  rcases hz.is with ⟨_,r⟩ | ⟨a,b,_,_,r3,r4,_⟩
  ·rw [r] at e;cases e
  ·rcases hy.is with ⟨_,r⟩ | ⟨a',b',_,_,p3,p4,_⟩
   ·rw [r] at e';cases e'
   ·rw [r3] at e;cases e
    rw [p3] at e';cases e'
    rw [r4] at p4
    simp at p4
 have hzp:(∃ n' g' sz' i l,sc.loose=.vs n' g' sz' i l) \/ ∃ d,sc.loose=.d d:=by
  rcases hz.is with ⟨_,r⟩ | ⟨a,b,_,_,r3,r4,_⟩
  ·exact .inr ⟨_,r⟩
  ·exact .inl ⟨_,_,_,_,_,r3⟩
 refine AW.scene_fz1 hy hr hv hk ho hB (fun s2 h2 hvec hd=>?_) hdis hzp
 refine AW.scene_fz2 (N:=B.next) (rows:=rows') (rowsY:=rows) (sc:={ sc with vals:=sl rows }) (m0:=m0) (k:=k) ?_ hr' rfl hv hk h2.sc (fun m o hm hne hmo=>hB m o hm hne (by rw [<- h2.ob m hm hne];exact hmo)) (fun s3 h3=>?_)
 ·rcases hz.is with ⟨r1,r⟩ | ⟨a,b,r1,_,r3,r4,_⟩
  ·exact .inl ⟨r1,r⟩
  ·exact .inr ⟨a,b,r1,r3,hvec _ _ _ _ _ (fun g' sz' i l e=>by
    rcases hy.is with ⟨_,r⟩ | ⟨a',b',_,_,p3,p4,_⟩
    ·rw [r] at e;cases e
    ·rw [p3] at e;cases e
     rw [r4] at p4
     simp at p4) r4⟩
 ·exact h s3 ⟨h3.sc,fun m hm hne=>(h3.ob m hm hne).trans (h2.ob m hm hne),Nat.le_trans h2.nx h3.nx,fun t n off he=>h3.env t n off (h2.env t n off he),h3.nt.trans h2.nt,h3.df.trans h2.df⟩
theorem formed_good {l:List News} {srcs:Int} (h:formedB l srcs=true):∀ n ∈ l,goodB n srcs=true:=by
 simp only [formedB,plainB,Bool.and_eq_true,decide_eq_true_eq,Bool.not_eq_true',List.any_eq_false] at h
 intro n hn
 have:=h.1.2 n hn
 simpa using this
theorem evKeys_len (l:List News):(evKeys l).length<=l.length:=by
 refine snoc_ind (p:=fun l=>(evKeys l).length<=l.length) (Nat.le_refl _) (fun l n ih=>?_) l
 rw [evKeys_snoc,keyStep]
 split
 ·simp only [List.length_append];omega
 ·simp only [List.length_append,List.length_singleton];omega
theorem insE_len (e:Event):∀ l:List Event,(insE e l).length=l.length+1
 | []=>rfl
 | x :: l=>by
  rw [insE]
  split
  ·simp
  ·simp [insE_len e l]
theorem stands_len (l:List News):(standsM l).length<=l.length:=by
 have h1:∀ es:List Event,(es.foldr insE []).length=es.length:=fun es=>by
  induction es with
  | nil=>rfl
  | cons e es ih=>rw [List.foldr_cons,insE_len,ih];rfl
 have h2:∀ ks:List (Int × Int),(ks.flatMap fun k=>oneM l k.1 k.2).length<=ks.length:=fun ks=>by
  induction ks with
  | nil=>simp
  | cons k ks ih =>
   have:=oneM_len' l k.1 k.2
   simp only [List.flatMap_cons,List.length_append,List.length_cons];omega
 unfold standsM
 rw [h1]
 exact Nat.le_trans (h2 _) (evKeys_len l)
theorem stands60 {l:List News} {srcs:Int} (h:formedB l srcs=true):(standsM l).length<=60:=by
 simp only [formedB,plainB,Bool.and_eq_true,decide_eq_true_eq] at h
 exact Nat.le_trans (stands_len l) h.1.1.2
theorem filt2 {α:Type} (p q:α->Bool):∀ es:List α,(es.filter fun e=>p e && !q e).length+(es.filter fun e=>p e && q e).length<=es.length
 | []=>by simp
 | e :: es=>by
  have ih:=filt2 p q es
  simp only [List.filter_cons]
  cases p e <;> cases q e <;> simp <;> omega
theorem markM_in {l:List News} {srcs:Int} (h:formedB l srcs=true) (src:Int):0<=markM l src/\markM l src<=201:=by
 have hg:=formed_good h
 clear h
 revert hg
 refine snoc_ind (p:=fun l=>(∀ n ∈ l,goodB n srcs=true)->0<=markM l src/\markM l src<=201) ?_ (fun l n ih hg=>?_) l
 ·intro _;simp [markM]
 ·have:=ih fun m hm=>hg m (List.mem_append_left _ hm)
  rw [markM_snoc,hearM]
  split
  ·rename_i hc
   have hn:=hg n (by simp)
   simp [goodB,hc.1,markedB,inB] at hn
   unfold maxI;split <;> omega
  ·exact this
theorem lastM_in {l:List News} {s i:Int}:∀ {n:News},lastM l s i=some n->n ∈ l:=by
 refine snoc_ind (p:=fun l=>∀ {n:News},lastM l s i=some n->n ∈ l) ?_ (fun l m ih=>?_) l
 ·intro n h;simp [lastM] at h
 ·intro n h
  rw [lastM_snoc,hearL] at h
  split at h
  ·cases h;simp
  ·exact List.mem_append_left _ (ih h)
theorem standsM_val {l:List News} {srcs:Int} (h:formedB l srcs=true):∀ e ∈ standsM l,inMost e.rec_.val:=by
 intro e he
 have he:=(standsM_mem l e).1 he
 unfold oneM at he
 split at he
 ·rename_i n hn
  split at he
  ·rename_i h1
   have hg:=formed_good h n (lastM_in hn)
   simp at he
   have hr:e.rec_=n.rec_:=by rw [he]
   rw [hr]
   simp [goodB,h1,saidB,recB,inB] at hg
   unfold inMost;omega
  ·simp at he
 ·simp at he
theorem comeM_lists (f key:Int) (m:Nat) (y z:LV):∀ (k:Nat) (s:Scene) (v:Int),comeM f key m { s with vals:=y,loose:=z } v k = { comeM f key m s v k with vals:=y,loose:=z }
 | 0,s,v=>rfl
 | k+1,s,v=>by
  rw [comeM,comeM]
  have:comeO { s with vals:=y,loose:=z } (firstP s.sh key v f m) = { comeO s (firstP s.sh key v f m) with vals:=y,loose:=z }:=by
   cases firstP s.sh key v f m <;> rfl
  have e:=comeM_lists f key m y z k (comeO s (firstP s.sh key v f m)) (v+1)
  rw [<- e]
  simp only
  rw [this]
theorem comeM_keep (f key:Int) (m:Nat):∀ (k:Nat) (s:Scene) (v:Int),(comeM f key m s v k).vals=s.vals/\(comeM f key m s v k).loose=s.loose/\(comeM f key m s v k).vers=s.vers/\(comeM f key m s v k).sh=s.sh/\(comeM f key m s v k).room=s.room
 | 0,s,v=>⟨rfl,rfl,rfl,rfl,rfl⟩
 | k+1,s,v=>by
  rw [comeM]
  have ih:=comeM_keep f key m k (comeO s (firstP s.sh key v f m)) (v+1)
  have:(comeO s (firstP s.sh key v f m)).vals=s.vals/\(comeO s (firstP s.sh key v f m)).loose=s.loose/\(comeO s (firstP s.sh key v f m)).vers=s.vers/\(comeO s (firstP s.sh key v f m)).sh=s.sh/\(comeO s (firstP s.sh key v f m)).room=s.room:=by
   cases firstP s.sh key v f m <;> exact ⟨rfl,rfl,rfl,rfl,rfl⟩
  exact ⟨ih.1.trans this.1,ih.2.1.trans this.2.1,ih.2.2.1.trans this.2.2.1,ih.2.2.2.1.trans this.2.2.2.1,ih.2.2.2.2.trans this.2.2.2.2⟩
end Go.Aft
end
section
set_option maxRecDepth 20000
namespace Go.Aft
open Go.Proofs.Tryz
open Go.Sort (swp insInner insOuter insertionSort SWO PermIn SortedIn)
theorem add2_0 {H:GH} {a b:GO}:((H.add a).add b).obj H.next=some a:=by simp [GH.add_obj,GH.add_next]
theorem add2_1 {H:GH} {a b:GO}:((H.add a).add b).obj (H.next+1)=some b:=by simp [GH.add_obj,GH.add_next]
theorem add2_set0 {H:GH} {a b c:GO}:((H.add a).add b).set H.next c=(H.add c).add b:=by
 simp only [GH.set,GH.add];congr 1;funext m;unfold upd;split <;> simp_all
theorem add2_set1 {H:GH} {a b c:GO}:((H.add a).add b).set (H.next+1) c=(H.add a).add c:=by
 simp only [GH.set,GH.add];congr 1;funext m;unfold upd;split <;> simp_all
def inWin (sh:Shape) (window key:Int) (e:Event):Bool:=decide (e.src=sh.src/\e.rec_.key=key) && inB e.rec_.at_ (window - sh.n+1) window && passM sh e.rec_
def isLoose (l:List News) (sh:Shape) (e:Event):Bool:=decide (markM l sh.src<=e.rec_.at_/\verM l sh.src e.id < 99)
def fixedM (l:List News) (sh:Shape) (window key:Int) (es:List Event):List Int:=(es.filter fun e=>inWin sh window key e && !isLoose l sh e).map fun e=>e.rec_.val
def looseM (l:List News) (sh:Shape) (window key:Int) (es:List Event):List Loose:=(es.filter fun e=>inWin sh window key e && isLoose l sh e).map fun e=>⟨e,verM l sh.src e.id⟩
def scene0 (sh:Shape) (room:Room) (y z:LV) (m:Nat):Scene:=⟨sh,room,y,z,false,zeroRec,zeroRec,.gm m⟩
def sceneM (l:List News) (sh:Shape) (room:Room) (window key:Int) (m:Nat):Scene :=
 comeM (maxI (window - sh.n+1) (markM l sh.src)) key (window - maxI (window - sh.n+1) (markM l sh.src)+1).toNat
  (scene0 sh room (sl ((fixedM l sh window key (standsM l)).map rI)) (sl ((sortL (looseM l sh window key (standsM l))).map rLoose)) m) room.low (room.high - room.low+1).toNat
def lookE (q:Shape × Bool) (news:Nat) (room:Room) (window:Int):Int :=
 if q.2=false then 7 else if (inB window 0 200 && decide ((window+1).tmod q.1.n=0))=false then 2 else if 60 < (news:Int)+room.most then 3 else 0
theorem near_look (p:Prog) (hs:fitP p) (d:Nat) (hd:d < p.defs.length) (hfm:formed p) (l:List News) (hl:formedB l p.srcs.length=true) (h12:(standsM l).length<=60) (room:Room) (hroom:roomB room=true) (window key:Int) (hkey:valB key=true) (H:GH)
  (h8:p.defs[d].exp.op=8->∃ k ks,p.defs[d].exp.kids=k :: ks/\WOk 1000 k) (hpl:(plainOf p p.defs[d].exp).2=true->1<=(plainOf p p.defs[d].exp).1.n/\(plainOf p p.defs[d].exp).1.n<=50/\0<=(plainOf p p.defs[d].exp).1.src/\(plainOf p p.defs[d].exp).1.src < p.srcs.length) :
  ECall prog 62 [lv (rProg p),lvI d,sl (l.map rNews),lv (rRoom room),lvI window,lvI key] H fun ce H'=>if lookE (plainOf p p.defs[d].exp) l.length room window=0
   then ce=.ret (.tup [.gp (H.next+1) 0,lvI 0])/\∃ es,MapV es l (plainOf p p.defs[d].exp).1.src/\H'=(H.add (.map es)).add (sceneO (sceneM l (plainOf p p.defs[d].exp).1 room window key H.next))
   else ce=.ret (.tup [.d (.k (.pointer none)),lvI (lookE (plainOf p p.defs[d].exp) l.length room window)])/\H'=H:=by
 have cc:=cxK_ok (p:=kds [6,9] [58] [177,189])
 refine ECall.bodyOW (cxK_ok (p:=kds [6,9] [58] [177,189])) func62 rfl call62 (by rw [ntmps62];simp) rfl fun hf hw=>?_
 have hsh:=near_shaped p d hd h8
 simp [rProg,shapedV] at hsh
 obtain ⟨⟨sh,ok⟩,hq⟩:∃ q,plainOf p p.defs[d].exp=q:=⟨_,rfl⟩
 rw [hq] at hsh hpl |-
 simp [rShape] at hsh hpl
 simp [ntmps62,results62,rProg,rRoom] at hf |-
 refine AW.seq cc ?_
 simp
 refine AW.seq cc ?_
 simp
 refine EC.afun hsh ?_
 simp
 refine AW.seq cc ?_
 simp
 cases ok with
 | false =>
  simp
  exact fun hz=>⟨H,hz.drop (Nat.le_refl _),by simp [lookE]⟩
 | true =>
  have hpl':=hpl rfl
  simp
  refine AW.seq cc ?_
  have hwi:=near_within' window 0 200
  have wn:inB window 0 200=true->IntKind.wrap .i64 (window+1)=window+1:=fun h=>by
   simp [inB] at h
   rw [wrap64] <;> omega
  simp
  refine EC.afun hwi ?_
  have hn0:sh.n ≠ 0:=by omega
  cases hin:inB window 0 200 with
  | false =>
   simp
   exact fun hz=>⟨H,hz.drop (Nat.le_refl _),by simp [lookE,hin]⟩
  | true =>
   simp [wn hin,hn0]
   refine ⟨fun hmod hz=>⟨H,hz.drop (Nat.le_refl _),by simp [lookE,hin,hmod]⟩,fun hmod=>?_⟩
   refine AW.seq cc ?_
   have hm60:l.length<=60:=(formed_src hl).2
   have hrm:0<=room.most/\room.most<=6/\valB room.low=true/\valB room.high=true:=by
    simp [roomB,inB] at hroom
    exact ⟨hroom.1.1.1.1,hroom.1.1.1.2,hroom.1.1.2,hroom.1.2⟩
   have wl:IntKind.wrap .i64 ((l.length:Int)+room.most)=(l.length:Int)+room.most:=by rw [wrap64] <;> omega
   simp [wl]
   refine ⟨fun hlong hz=>⟨H,hz.drop (Nat.le_refl _),by simp [lookE,hin,hmod,hlong]⟩,fun hlong=>?_⟩
   have hE:lookE (sh,true) l.length room window=0:=by simp [lookE,hin,hmod];omega
   rw [hE]
   refine AW.seq cc ?_
   simp [GH.add_next]
   refine AW.seq cc ?_
   simp
   have hsc:∀ m,GO.box [LV.d (DV.k (Value.int IntKind.i64 sh.src)),LV.d (DV.k (Value.int IntKind.i64 sh.n)),LV.d (DV.k (Value.int IntKind.i64 sh.fold)),LV.d (DV.sl (List.map rCalc sh.terms)),LV.d (DV.k (Value.int IntKind.i64 room.most)),LV.d (DV.k (Value.int IntKind.i64 room.low)),LV.d (DV.k (Value.int IntKind.i64 room.high)),LV.d (DV.k (Value.slice none 0 0)),LV.d (DV.k (Value.slice none 0 0)),LV.d (DV.k (Value.bool false)),LV.d (DV.k (Value.int IntKind.i64 0)),LV.d (DV.k (Value.int IntKind.i64 0)),LV.d (DV.k (Value.int IntKind.i64 0)),LV.d (DV.k (Value.int IntKind.i64 0)),LV.d (DV.k (Value.int IntKind.i64 0)),LV.d (DV.k (Value.int IntKind.i64 0)),LV.gm m]=sceneO (scene0 sh room nilS nilS m):=fun m=>by simp [sceneO,scene0,rShape,rRoom,rRec,zeroRec]
   rw [hsc]
   refine AW.loopS cc (fun a:Nat × List (Value × LV)=>⟨[(2,.d (.sl (l.map rNews))),(4,lvI window),(5,lvI key),(6,.ip [.d (.sl (p.srcs.map rS)),.d (.sl (p.defs.map rDef))] 0),(14,.lp 14 0),(16,.gp (H.next+1) 0),(59,.d (.sl (l.map rNews))),(60,lvI l.length),(61,lvI a.1)],[(14,(rShape sh).map .d)],(H.add (.map a.2)).add (sceneO (scene0 sh room nilS nilS H.next))⟩) (fun a=>l.length - a.1)
    (fun a=>a.1<=l.length/\MapV a.2 (l.take a.1) sh.src) (0,[]) ⟨⟨by simp,by simpa using MapV.nil _⟩,by simp [rShape]⟩ ?_
   rintro ⟨i,es⟩ ⟨hi,hm⟩
   simp only at hi hm
   simp [rShape]
   refine ⟨fun h=>?_,fun h=>?_⟩
   ·simp [h,List.getElem?_eq_getElem h,rNews,rRec]
    have htk:l.take (i+1)=l.take i ++ [l[i]]:=by rw [List.take_add_one,List.getElem?_eq_getElem h];rfl
    have wi:=wrap_succ (n:=1000) (show i < 1000 by omega)
    refine ⟨fun q1 q2=>?_,fun q=>?_⟩
    ·refine AW.draw cc [] (.q 0<|.q 1<|.q 2<|.q 4<|.q 6<|.q 7<|.q 8<|.q 10<|.q 13<|.q 3<|.q 5<|.q 9<|.q 11<|.q 12<|.q 14<|.q 15<|.f<|.one 16<|.done) (by kernel_rfl) ?_
     have hg:=hm.get l[i].id
     have hkey:(∀ (a:Value) (b:LV),(a,b) ∈ es->(KK.sc (Sc.int IntKind.i64)).has a=true)=True:=eq_true hm.key
     have hk1:∀ n,(KK.sc (Sc.int IntKind.i64)).has (Value.int IntKind.i64 n)=true:=fun _=>rfl
     have hnb:=hm.nb
     simp at hg
     simp [add2_0,add2_1,add2_set0,sceneO,scene0,rShape,rRoom,rRec,zeroRec,hkey,hk1,hg]
     have hm':MapV es (l.take i) l[i].src:=by rw [q2];exact hm
     have hp:=hm'.put q1
     rw [q2] at hp
     exact NX.go (i+1,_) (by simp only;omega) ⟨h,by rw [htk];exact hp⟩ (by simp [wi,rShape,rNews,rRec,sceneO,scene0,rRoom,zeroRec])
    ·refine NX.go (i+1,es) (by simp only;omega) ⟨h,by rw [htk];exact hm.keep fun q'=>q q'.1 q'.2⟩ (by simp [wi,rShape,rNews,rRec])
   ·have e:i=l.length:=by omega
    subst e
    rw [List.take_length] at hm
    have hmk:=hist_Marks l p.srcs.length
    simp [marksV,hl] at hmk
    refine AW.seq cc ?_
    simp
    refine EC.afun hmk ?_
    simp
    refine AW.seq cc ?_
    refine AW.draw cc [] (.q 0<|.q 1<|.q 5<|.q 6<|.q 2<|.q 3<|.q 4<|.q 10<|.q 7<|.q 8<|.q 9<|.q 11<|.done) (by kernel_rfl) ?_
    have ws1:IntKind.wrap .i64 (window - sh.n)=window - sh.n:=by simp [inB] at hin;rw [wrap64] <;> omega
    have ws2:IntKind.wrap .i64 (window - sh.n+1)=window - sh.n+1:=by simp [inB] at hin;rw [wrap64] <;> omega
    have hsn:sh.src.toNat < p.srcs.length:=by omega
    have hss:(0:Int)<=sh.src:=hpl'.2.2.1
    have hsl:sh.src < (p.srcs.length:Int):=hpl'.2.2.2
    have hso:((sh.src.toNat:Nat):Int)=sh.src:=by omega
    simp [ws1,ws2,hsn,hss,hsl,hso,rI]
    have hst:=hist_Stands l p.srcs.length (by omega)
    simp [hl] at hst
    refine AW.seq cc ?_
    simp
    refine EC.afun hst ?_
    simp
    refine AW.seq cc ?_
    simp
    obtain ⟨evs,hev⟩:∃ evs,standsM l=evs:=⟨_,rfl⟩
    have hevm:∀ e ∈ evs,inMost e.rec_.val:=fun e he=>standsM_val hl e (by rw [hev];exact he)
    simp only [hev] at h12 |-
    refine AW.loopS cc (fun a:Nat × LV × LV × GH=>⟨[(4,lvI window),(5,lvI key),(14,.lp 14 0),(16,.gp (H.next+1) 0),(21,lvI (window - sh.n+1)),(22,lvI (markM l sh.src)),(118,.d (.sl (evs.map rEvent))),(119,lvI evs.length),(120,lvI a.1)],[(14,(rShape sh).map .d)],a.2.2.2⟩) (fun a=>evs.length - a.1)
     (fun a=>a.1<=evs.length/\VApp 3 1 ((H.add (.map es)).add (sceneO (scene0 sh room a.2.1 a.2.2.1 H.next))) a.2.1 ((fixedM l sh window key (evs.take a.1)).map rI) a.2.2.2/\VApp 181 6 ((H.add (.map es)).add (sceneO (scene0 sh room a.2.1 a.2.2.1 H.next))) a.2.2.1 ((looseM l sh window key (evs.take a.1)).map rLoose) a.2.2.2)
     (0,nilS,nilS,(H.add (.map es)).add (sceneO (scene0 sh room nilS nilS H.next))) ⟨⟨by simp,by simpa [fixedM] using VApp.nil,by simpa [looseM] using VApp.nil⟩,by simp [rShape]⟩ ?_
    rintro ⟨i,y,z,H'⟩ ⟨hi,hy,hz⟩
    simp only at hi hy hz
    simp [rShape]
    refine ⟨fun h=>?_,fun h=>?_⟩
    ·have htk:evs.take (i+1)=evs.take i ++ [evs[i]]:=by rw [List.take_add_one,List.getElem?_eq_getElem h];rfl
     have hf1:fixedM l sh window key (evs.take (i+1))=fixedM l sh window key (evs.take i) ++ (if (inWin sh window key evs[i] && !isLoose l sh evs[i])=true then [evs[i].rec_.val] else []):=by
      rw [htk];simp only [fixedM,List.filter_append,List.map_append,List.filter_cons,List.filter_nil];split <;> rfl
     have hl1:looseM l sh window key (evs.take (i+1))=looseM l sh window key (evs.take i) ++ (if (inWin sh window key evs[i] && isLoose l sh evs[i])=true then [⟨evs[i],verM l sh.src evs[i].id⟩] else []):=by
      rw [htk];simp only [looseM,List.filter_append,List.map_append,List.filter_cons,List.filter_nil];split <;> rfl
     have hskip:inWin sh window key evs[i]=false->fixedM l sh window key (evs.take (i+1))=fixedM l sh window key (evs.take i)/\looseM l sh window key (evs.take (i+1))=looseM l sh window key (evs.take i):=fun q=>by
      rw [hf1,hl1];simp [q]
     have wi:=wrap_succ (n:=1000) (show i < 1000 by omega)
     have hnx:∀ (y' z':LV) (H5:GH),VApp 3 1 ((H.add (.map es)).add (sceneO (scene0 sh room y' z' H.next))) y' ((fixedM l sh window key (evs.take (i+1))).map rI) H5->VApp 181 6 ((H.add (.map es)).add (sceneO (scene0 sh room y' z' H.next))) z' ((looseM l sh window key (evs.take (i+1))).map rLoose) H5->True:=fun _ _ _ _ _=>trivial
     by_cases c1:evs[i].src=sh.src
     rotate_left
     ·have hs':=hskip (by simp [inWin,c1])
      rw [<- hs'.1] at hy;rw [<- hs'.2] at hz
      have b1:(evs[i].src != sh.src)=true:=by simpa using c1
      simp [h,List.getElem?_eq_getElem h,rEvent,rRec,c1,b1]
      exact NX.go (i+1,y,z,H') (by simp only;omega) ⟨h,hy,hz⟩ (by simp [wi,rShape,rEvent,rRec])
     by_cases c2:evs[i].rec_.key=key
     rotate_left
     ·have hs':=hskip (by simp [inWin,c2])
      rw [<- hs'.1] at hy;rw [<- hs'.2] at hz
      have b1:(evs[i].src != sh.src)=false:=by simpa using c1
      have b2:(evs[i].rec_.key != key)=true:=by simpa using c2
      simp [h,List.getElem?_eq_getElem h,rEvent,rRec,c1,c2,b1,b2]
      exact NX.go (i+1,y,z,H') (by simp only;omega) ⟨h,hy,hz⟩ (by simp [wi,rShape,rEvent,rRec])
     have hwi2:=near_within' evs[i].rec_.at_ (window - sh.n+1) window
     have hps:=near_passes sh evs[i].rec_
     simp [rShape,rRec,c2] at hps
     have b1:(evs[i].src != sh.src)=false:=by simpa using c1
     have b2:(evs[i].rec_.key != key)=false:=by simpa using c2
     simp [h,List.getElem?_eq_getElem h,rEvent,rRec,c1,c2,b1,b2]
     refine EC.afun hwi2 ?_
     cases c3:inB evs[i].rec_.at_ (window - sh.n+1) window with
     | false =>
      have hs':=hskip (by simp [inWin,c3])
      rw [<- hs'.1] at hy;rw [<- hs'.2] at hz
      simp [b1,b2]
      exact NX.go (i+1,y,z,H') (by simp only;omega) ⟨h,hy,hz⟩ (by simp [wi,rShape,rEvent,rRec])
     | true =>
      simp [b1,b2]
      refine EC.afun hps ?_
      cases c4:passM sh evs[i].rec_ with
      | false =>
       have hs':=hskip (by simp [inWin,c4])
       rw [<- hs'.1] at hy;rw [<- hs'.2] at hz
       simp [b1,b2]
       exact NX.go (i+1,y,z,H') (by simp only;omega) ⟨h,hy,hz⟩ (by simp [wi,rShape,rEvent,rRec])
      | true =>
       have hin':inWin sh window key evs[i]=true:=by simp [inWin,c1,c2,c3,c4]
       simp [b1,b2]
       have o1:H'.obj (H.next+1)=some (sceneO (scene0 sh room y z H.next)):=by rw [hy.ob _ (by simp [GH.add_next])];exact add2_1
       have o0:H'.obj H.next=some (.map es):=by rw [hy.ob _ (by simp only [GH.add_next];omega)];exact add2_0
       refine AW.draw cc [] (.q 0<|.q 1<|.q 2<|.q 4<|.q 3<|.q 5<|.q 6<|.q 7<|.done) (by kernel_rfl) ?_
       have hg:=hm.get evs[i].id
       have hkey:(∀ (a:Value) (b:LV),(a,b) ∈ es->(KK.sc (Sc.int IntKind.i64)).has a=true)=True:=eq_true hm.key
       have hk1:∀ n,(KK.sc (Sc.int IntKind.i64)).has (Value.int IntKind.i64 n)=true:=fun _=>rfl
       simp at hg
       simp [o0,o1,sceneO,scene0,rShape,rRoom,rRec,zeroRec,hkey,hk1,hg]
       refine ⟨fun q1 q2=>?_,fun q=>?_⟩
       ·refine AW.draw cc [] (.q 0<|.q 1<|.q 2<|.q 3<|.q 6<|.q 4<|.f<|.one 5<|.q 7<|.q 8<|.f<|.one 9<|.q 10<|.q 11<|.f<|.one 12<|.done) (by kernel_rfl) ?_
        simp [o1,sceneO,scene0,rShape,rRoom,rRec,zeroRec]
        have hlo:isLoose l sh evs[i]=true:=by simp [isLoose,q1,q2]
        have e1:fixedM l sh window key (evs.take (i+1))=fixedM l sh window key (evs.take i):=by rw [hf1];simp [hlo]
        have e2:looseM l sh window key (evs.take (i+1))=looseM l sh window key (evs.take i) ++ [⟨evs[i],verM l sh.src evs[i].id⟩]:=by rw [hl1];simp [hlo,hin']
        have hlen:(looseM l sh window key (evs.take i)).length<=evs.length:=by
         simp only [looseM,List.length_map]
         exact Nat.le_trans (List.length_filter_le ..) (by simp;omega)
        refine APK.appV (ys:=[rLoose ⟨evs[i],verM l sh.src evs[i].id⟩]) tyE175 rfl tyE181 (by simp) (x:=z) (by simp [hz.plain.all]) hz (by simp [srcOf,rowsOf,rLoose,rEvent,rRec,c1,c2]) (by simp) (fun r hr=>by obtain ⟨_,_,rfl⟩:=List.mem_map.1 hr;simp) (by simp) (by simp;omega) (by simp) fun z' H5 h5 n5 f5=>?_
        have y5:=hy.keep hz (by decide) n5 h5.ob f5
        have o5:H5.obj (H.next+1)=some (sceneO (scene0 sh room y z H.next)):=by rw [h5.ob _ (by simp [GH.add_next])];exact add2_1
        have y6:=y5.set (k:=H.next+1) (by simp [GH.add_next]) (sceneO (scene0 sh room y z' H.next))
        have z6:=h5.set (k:=H.next+1) (by simp [GH.add_next]) (sceneO (scene0 sh room y z' H.next))
        rw [add2_set1] at y6 z6
        simp [o5,sceneO,scene0,rShape,rRoom,rRec,zeroRec,h5.plain.all,h5.nb]
        exact NX.go (i+1,y,z',H5.set (H.next+1) (sceneO (scene0 sh room y z' H.next))) (by simp only;omega) ⟨h,by rw [e1];exact y6,by rw [e2,List.map_append];exact z6⟩ (by simp [wi,rShape,rEvent,rRec,sceneO,scene0,rRoom,zeroRec])
       ·refine AW.draw cc [] (.q 0<|.q 1<|.q 2<|.q 3<|.q 5<|.q 6<|.q 4<|.f<|.one 7<|.q 8<|.f<|.one 9<|.q 10<|.q 11<|.f<|.one 12<|.done) (by kernel_rfl) ?_
        simp [o1,sceneO,scene0,rShape,rRoom,rRec,zeroRec]
        have hlo:isLoose l sh evs[i]=false:=by simp only [isLoose,decide_eq_false_iff_not];rintro ⟨r1,r2⟩;have:=q r1;omega
        have e1:fixedM l sh window key (evs.take (i+1))=fixedM l sh window key (evs.take i) ++ [evs[i].rec_.val]:=by rw [hf1];simp [hlo,hin']
        have e2:looseM l sh window key (evs.take (i+1))=looseM l sh window key (evs.take i):=by rw [hl1];simp [hlo]
        have hlen:(fixedM l sh window key (evs.take i)).length<=evs.length:=by
         simp only [fixedM,List.length_map]
         exact Nat.le_trans (List.length_filter_le ..) (by simp;omega)
        refine APK.appV (ys:=[rI evs[i].rec_.val]) tyE89 rfl tyE3 (by simp) (x:=y) (by simp [hy.plain.all]) hy (by simp [srcOf,rowsOf,rI]) (by simp) (fun r hr=>by obtain ⟨_,_,rfl⟩:=List.mem_map.1 hr;rfl) (by simp) (by simp;omega) (by simp) fun y' H5 h5 n5 f5=>?_
        have z5:=hz.keep hy (by decide) n5 h5.ob f5
        have o5:H5.obj (H.next+1)=some (sceneO (scene0 sh room y z H.next)):=by rw [h5.ob _ (by simp [GH.add_next])];exact add2_1
        have y6:=h5.set (k:=H.next+1) (by simp [GH.add_next]) (sceneO (scene0 sh room y' z H.next))
        have z6:=z5.set (k:=H.next+1) (by simp [GH.add_next]) (sceneO (scene0 sh room y' z H.next))
        rw [add2_set1] at y6 z6
        simp [o5,sceneO,scene0,rShape,rRoom,rRec,zeroRec,h5.plain.all,h5.nb]
        exact NX.go (i+1,y',z,H5.set (H.next+1) (sceneO (scene0 sh room y' z H.next))) (by simp only;omega) ⟨h,by rw [e1,List.map_append];exact y6,by rw [e2];exact z6⟩ (by simp [wi,rShape,rEvent,rRec,sceneO,scene0,rRoom,zeroRec])
    ·have e:i=evs.length:=by omega
     subst e
     rw [List.take_length] at hy hz
     have o1:H'.obj (H.next+1)=some (sceneO (scene0 sh room y z H.next)):=by rw [hy.ob _ (by simp [GH.add_next])];exact add2_1
     refine AW.seq cc ?_
     have o1':=o1
     simp only [sceneO,scene0,rShape,rRoom,rRec,zeroRec,List.map_cons,List.map_nil,List.cons_append,List.nil_append,dI_eq] at o1'
     simp [o1',hz.plain.all,hz.nb]
     have hl19:(looseM l sh window key evs).length<=60:=by
      simp only [looseM,List.length_map]
      exact Nat.le_trans (List.length_filter_le ..) h12
     have hso:=loose_sort (looseM l sh window key evs) (by omega) (fun x hx=>by
      obtain ⟨e,he,rfl⟩:=List.mem_map.1 hx
      exact hevm e (List.mem_filter.1 he).1) z _ H' hz
     refine EC.of hso (fun v H5 hR=>?_) (fun v H5 hR=>?_)
     rotate_left
     ·obtain ⟨⟨_,q⟩,_⟩:=hR;cases q
     obtain ⟨_,z5,n5,f5⟩:=hR
     have y5:=hy.keep hz (by decide) n5 z5.ob f5
     have o5:H5.obj (H.next+1)=some (sceneO (scene0 sh room y z H.next)):=by rw [z5.ob _ (by simp [GH.add_next])];exact add2_1
     have hmr:=markM_in hl sh.src
     have hwin:0<=window/\window<=200:=by simpa [inB] using hin
     have hfr:-1000<=maxI (window - sh.n+1) (markM l sh.src)/\maxI (window - sh.n+1) (markM l sh.src)<=1000:=by unfold maxI;split <;> omega
     have hcome:=scene_come (scene0 sh room y z H.next) (H.next+1) (maxI (window - sh.n+1) (markM l sh.src)) window key H5 o5 hfr (by omega) hrm.2.2.1 hrm.2.2.2
     have nb5:H.next+1 < H5.next:=by have:=z5.nx;simp only [GH.add_next] at this;omega
     simp
     refine AW.seq cc ?_
     simp at hcome
     simp [nb5]
     refine EC.of hcome (fun v H6 hR=>?_) (fun v H6 hR=>?_)
     rotate_left
     ·obtain ⟨⟨_,q⟩,_⟩:=hR;cases q
     obtain ⟨_,hH6⟩:=hR
     simp
     obtain ⟨SC,hSC⟩:∃ SC,comeM (maxI (window - sh.n+1) (markM l sh.src)) key (window - maxI (window - sh.n+1) (markM l sh.src)+1).toNat (scene0 sh room y z H.next) room.low (room.high - room.low+1).toNat=SC:=⟨_,rfl⟩
     have hk:=comeM_keep (maxI (window - sh.n+1) (markM l sh.src)) key (window - maxI (window - sh.n+1) (markM l sh.src)+1).toNat (room.high - room.low+1).toNat (scene0 sh room y z H.next) room.low
     have hfin:=comeM_lists (maxI (window - sh.n+1) (markM l sh.src)) key (window - maxI (window - sh.n+1) (markM l sh.src)+1).toNat (sl ((fixedM l sh window key evs).map rI)) (sl ((sortL (looseM l sh window key evs)).map rLoose)) (room.high - room.low+1).toNat (scene0 sh room y z H.next) room.low
     rw [hSC] at hk hfin
     simp only [scene0] at hSC hk
     simp only [scene0,hSC] at hH6
     have y6:=y5.set (k:=H.next+1) (by simp [GH.add_next]) (sceneO SC)
     have z6:=z5.set (k:=H.next+1) (by simp [GH.add_next]) (sceneO SC)
     rw [<- hH6,add2_set1] at y6 z6
     rw [<- hk.1] at y6
     rw [<- hk.2.1] at z6
     have hBn:((H.add (GO.map es)).add (sceneO SC)).next=H.next+2:=rfl
     have oold:∀ m,m < H.next+2->m ≠ H.next+1->H6.obj m=(H.add (GO.map es)).obj m:=fun m hm hne=>by
      rw [hH6,GH.set_obj,if_neg hne,z5.ob m (by simp only [GH.add_next];omega),GH.add_obj,if_neg (by simp only [GH.add_next];omega)]
     have hnm:nbH (H.add (GO.map es)):=hw.add (hm.nb _)
     refine AW.scene_fz (sc:=SC) (m0:=H.next) (k:=H.next+1) y6 (fun r hr=>by obtain ⟨_,_,rfl⟩:=List.mem_map.1 hr;rfl) z6 (fun r hr=>by obtain ⟨_,_,rfl⟩:=List.mem_map.1 hr;simp) hk.2.2.1 (by rw [hBn];omega) (by simp only;rw [hH6,GH.set_same]) (fun m o hm' hne ho=>?_) (fun s2 h2=>?_)
     ·rw [hBn] at hm' |-
      simp only at ho
      rw [oold m hm' hne] at ho
      exact GO.nb_mono (by simp only [GH.add_next];omega) (hnm.nb m o ho)
     ·have e16:=h2.env 16 (H.next+1) 0 (by simp)
      obtain ⟨env2,L2,H2,nt2,df2⟩:=s2
      have ent:=h2.nt
      have edf:=h2.df
      have esc:=h2.sc
      have eob:=h2.ob
      have enx:=h2.nx
      simp only at ent edf e16 esc eob enx
      subst ent;subst edf
      refine AW.ev cc ?_
      simp [e16]
      have hsm:sceneM l sh room window key H.next = { SC with vals:=sl ((fixedM l sh window key evs).map rI),loose:=sl ((sortL (looseM l sh window key evs)).map rLoose) }:=by
       rw [sceneM,hev];exact hfin
      refine fun _=>⟨(H.add (.map es)).add (sceneO (sceneM l sh room window key H.next)),?_,by simp only [GH.add_next];omega,es,by simpa using hm,rfl⟩
      have hnb2:(sceneO (sceneM l sh room window key H.next)).nb ((H.add (.map es)).next+1):=by
       rw [hsm]
       simp only [sceneO,GO.nb,hk.2.2.1]
       simp [nbs_append,nbs,LV.nb,GH.add_next]
       omega
      refine Drop_sub (by rw [hBn] at eob;have:=z6.nx;simp only [GH.add_next] at this |-;omega) (fun m hm'=>?_) (hnm.add hnb2) (by simp only [GH.add_next];omega)
      have e1:(H.add (GO.map es)).next=H.next+1:=rfl
      simp only [GH.add_next] at hm'
      by_cases em:m=(H.add (GO.map es)).next
      ·rw [GH.add_obj,if_pos em,em,e1,hsm];exact esc.symm
      ·rw [GH.add_obj,if_neg em,eob m (by rw [hBn];omega) (by omega),oold m (by omega) (by omega)]
end Go.Aft
end
