import Derived.Test.YtdhphbedajhmnaaGreatA32
import Derived.Sort.LotA
import Derived.Test.YtdhphbedajhmnaaGreatA23
set_option linter.all false
section
set_option linter.unusedSectionVars false
set_option maxRecDepth 20000
namespace Go.Aft
open Go.Proofs.Tryz
open Go.Sort (swp insInner insOuter insertionSort)
section
variable {α:Type} [Inhabited α]
def rowsV (f:α->List DV) (d:Array α):List LV:=flatD (d.toList.map f)
theorem flat_get {f:α->List DV} {sz:Nat} (hf:∀ x,(f x).length=sz):∀ (l:List α) (i:Nat) (x:α),l[i]?=some x->((flatD (l.map f)).drop (i * sz)).take sz=(f x).map .d
 | [],i,x,h=>by simp at h
 | a :: l,0,x,h=>by
  simp at h;subst h
  simp only [List.map_cons,flatD,List.flatten_cons,List.map_append,Nat.zero_mul,List.drop_zero]
  rw [List.take_append_of_le_length (by simp [hf]),List.take_of_length_le (by simp [hf])]
 | a :: l,i+1,x,h=>by
  have ih:=flat_get hf l i x (by simpa using h)
  simp only [List.map_cons,flatD,List.flatten_cons,List.map_append] at ih |-
  have e1:(i+1) * sz=sz+i * sz:=by rw [Nat.succ_mul];omega
  have hl:((f a).map LV.d).length=sz:=by simp [hf]
  rw [e1,List.drop_append,hl,List.drop_of_length_le (by omega),List.nil_append,show sz+i * sz - sz=i * sz by omega]
  exact ih
theorem flatM_len {f:α->List DV} {sz:Nat} (hf:∀ x,(f x).length=sz):∀ (l:List α),(flatD (l.map f)).length=l.length * sz
 | []=>by simp [flatD]
 | a :: l=>by
  have ih:=flatM_len hf l
  simp only [List.map_cons,flatD,List.flatten_cons,List.map_append,List.length_append,List.length_map,hf,List.length_cons] at ih |-
  rw [ih,Nat.succ_mul];omega
theorem flat_set {f:α->List DV} {sz:Nat} (hf:∀ x,(f x).length=sz) (z:α):∀ (l:List α) (i:Nat),i < l.length->(flatD (l.map f)).take (i * sz) ++ (f z).map .d ++ (flatD (l.map f)).drop (i * sz+sz)=flatD ((l.set i z).map f)
 | [],i,h=>by simp at h
 | a :: l,0,h=>by
  simp only [List.map_cons,flatD,List.flatten_cons,List.map_append,Nat.zero_mul,List.take_zero,List.nil_append,List.set_cons_zero,Nat.zero_add]
  rw [List.drop_append_of_le_length (by simp [hf]),List.drop_of_length_le (by simp [hf]),List.nil_append]
 | a :: l,i+1,h=>by
  have ih:=flat_set hf z l i (by simpa using h)
  simp only [List.map_cons,flatD,List.flatten_cons,List.map_append,List.set_cons_succ] at ih |-
  have e1:(i+1) * sz=sz+i * sz:=by rw [Nat.succ_mul];omega
  rw [<- ih,e1]
  have hl:((f a).map LV.d).length=sz:=by simp [hf]
  rw [List.take_append,List.drop_append,hl,List.take_of_length_le (by omega),List.drop_of_length_le (by omega)]
  simp only [List.nil_append,List.append_assoc]
  rw [show sz+i * sz - sz=i * sz by omega,show sz+i * sz+sz - sz=i * sz+sz by omega]
theorem rowsV_len {f:α->List DV} {sz:Nat} (hf:∀ x,(f x).length=sz) (d:Array α):(rowsV f d).length=d.size * sz:=by
 rw [rowsV,flatM_len hf];simp
theorem rowsV_get {f:α->List DV} {sz:Nat} (hf:∀ x,(f x).length=sz) (d:Array α) {i:Nat} (h:i < d.size):((rowsV f d).drop (i * sz)).take sz=(f d[i]!).map .d :=
 flat_get hf _ _ _ (by rw [getElem!_pos d i h];simp [h])
theorem rowsV_set {f:α->List DV} {sz:Nat} (hf:∀ x,(f x).length=sz) (d:Array α) {i:Nat} (h:i < d.size) (z:α):putAt (rowsV f d) (i * sz) ((f z).map .d)=rowsV f (d.setIfInBounds i z):=by
 have:=flat_set hf z d.toList i (by simpa using h)
 simp only [putAt,List.length_map,hf,rowsV,Array.toList_setIfInBounds]
 exact this
theorem insInner_stop {lt:α->α->Bool} {a j:Nat} {d:Array α} (h:¬ (a < j/\lt d[j]! d[j - 1]! = true)):insInner lt a j d=d:=by
 cases j with
 | zero=>rfl
 | succ j =>
  rw [insInner,if_neg]
  simpa using h
theorem insInner_go {lt:α->α->Bool} {a j:Nat} {d:Array α} (h:a < j/\lt d[j]! d[j - 1]! = true):insInner lt a j d=insInner lt a (j - 1) (swp d j (j - 1)):=by
 cases j with
 | zero=>exact absurd h.1 (by omega)
 | succ j =>
  rw [insInner,if_pos]
  ·rfl
  ·simpa using h
theorem swp_size (d:Array α) (i j:Nat):(swp d i j).size=d.size:=by simp [swp]
theorem swp_all {p:α->Prop} {d:Array α} (h:∀ i,i < d.size->p d[i]!) {i j:Nat} (hi:i < d.size) (hj:j < d.size):∀ k,k < (swp d i j).size->p (swp d i j)[k]! := by
 intro k hk
 rw [swp_size] at hk
 have h1:=h i hi;have h2:=h j hj;have h3:=h k hk
 simp only [swp,getElem!_pos,hi,hj,hk,Array.size_setIfInBounds,Array.getElem_setIfInBounds] at h1 h2 h3 |-
 split
 ·exact h1
 ·split
  ·exact h2
  ·exact h3
end
instance:Inhabited Loose:=⟨⟨default,0⟩⟩
def ltOf' {α:Type} (c:α->α->Int) (x y:α):Bool:=decide (c x y < 0)
def vecO {α:Type} (f:α->List DV) (e g sz:Nat) (d:Array α) (ex:Bool):GO:=.vec e g sz (rowsV f d) ex
theorem loose_insertion (p:Loose->Prop) (cf:Loose->Loose->Int) (F:FuncId) (cap:List LV) (hcap:∀ n,nbs n cap) (hcf:∀ x y,p x->p y->AFun prog F ([lv (rLoose x),lv (rLoose y)] ++ cap) (lvI (cf x y)))
  (d:Array Loose) (hp:∀ i,i < d.size->p d[i]!) (hsz:d.size<=1000) (a b:Nat) (hab:a<=b) (hb:b<=d.size) (n g:Nat) (ex:Bool) (H:GH) (ho:H.obj n=some (vecO rLoose 181 g 6 d ex)) :
  ECall prog 202 [.vs n g 6 0 d.size,lvI a,lvI b,.fn (.func F) [] cap] H fun ce H'=>(∃ v,ce=.ret v)/\H'=H.set n (vecO rLoose 181 g 6 (insertionSort (ltOf' cf) d a b) ex):=by
 have cc:=cxK_ok (p:=kds [] [] [])
 refine ECall.bodyN (cxK_ok (p:=kds [] [] [])) func202 rfl call202 (by rw [ntmps202];simp) rfl fun hf hw=>?_
 have ln:=hw.lt ho
 have w1:IntKind.wrap .i64 ((a:Int)+1)=((a+1:Nat):Int):=by rw [wrap64] <;> omega
 simp [ntmps202,results202,w1]
 refine AW.loopS cc (fun s:Nat × Array Loose=>⟨[(0,.vs n g 6 0 d.size),(1,lvI a),(2,lvI b),(3,.fn (.func F) [] cap),(8,lvI s.1)],[],H.set n (vecO rLoose 181 g 6 s.2 ex)⟩) (fun s=>b - s.1)
  (fun s=>a+1<=s.1/\(s.1<=b \/ s.1=a+1)/\s.2.size=d.size/\(∀ i,i < s.2.size->p s.2[i]!)/\insertionSort (ltOf' cf) d a b=insOuter (ltOf' cf) a b s.1 s.2) (a+1,d) ⟨⟨by simp,by simp,rfl,hp,rfl⟩,by simp [GH.set_id ho,nbs_only _ (hcap 0)]⟩ ?_
 rintro ⟨i,d1⟩ ⟨i1,i2,i3,i4,i5⟩
 simp only at i1 i2 i3 i4 i5
 simp
 refine ⟨fun h=>?_,fun h=>?_⟩
 ·refine AW.loopS cc (fun s:Nat × Array Loose=>⟨[(0,.vs n g 6 0 d.size),(1,lvI a),(2,lvI b),(3,.fn (.func F) [] cap),(8,lvI i),(9,lvI s.1)],[],H.set n (vecO rLoose 181 g 6 s.2 ex)⟩) (fun s=>s.1)
   (fun s=>a<=s.1/\s.1<=i/\s.2.size=d.size/\(∀ i,i < s.2.size->p s.2[i]!)/\insInner (ltOf' cf) a i d1=insInner (ltOf' cf) a s.1 s.2) (i,d1) ⟨⟨by simp only;omega,Nat.le_refl _,i3,i4,rfl⟩,by simp [nbs_only _ (hcap 0)]⟩ ?_
  rintro ⟨j,d2⟩ ⟨j1,j2,j3,j4,j5⟩
  simp only at j1 j2 j3 j4 j5
  have ob:∀ o,(H.set n o).obj n=some o:=fun o=>GH.set_same
  simp
  refine AW.draw cc [(14,.n)] (.q 0<|.q 1<|.q 2<|.q 3<|.q 4<|.q 5<|.q 6<|.q 7<|.q 9<|.q 10<|.q 11<|.q 12<|.q 8<|.q 13<|.q 14<|.q 15<|.q 16<|.done) (by kernel_rfl) ?_
  have wj:IntKind.wrap .i64 ((j:Int) - 1)=(j:Int) - 1:=by rw [wrap64] <;> omega
  have tj:((j:Int) - 1).toNat=j - 1:=by omega
  have hl2:=rowsV_len rLoose_len d2
  rw [j3] at hl2
  have c1:6<=d.size * 6 - j * 6:=by omega
  have c2:6<=d.size * 6 - (j - 1) * 6:=by omega
  have g1:=rowsV_get rLoose_len d2 (show j < d2.size by omega)
  have g2:=rowsV_get rLoose_len d2 (show j - 1 < d2.size by omega)
  have hx:=hcf d2[j]! d2[j - 1]! (j4 j (by omega)) (j4 (j - 1) (by omega))
  simp at hx
  simp [ob,vecO,wj,tj,hl2,c1,c2,g1,g2]
  refine ⟨fun q=>⟨q,by omega⟩,fun q=>⟨q,by omega,by omega⟩,fun q=>⟨q,hcap _⟩,FCg.afun (fun _=>hx) ?_⟩
  simp
  refine ⟨fun q1 q2=>?_,fun q=>?_⟩
  ·refine AW.draw cc [] (.q 0<|.q 1<|.q 2<|.q 3<|.q 4<|.q 5<|.q 6<|.q 7<|.q 8<|.q 10<|.q 11<|.q 12<|.q 9<|.q 13<|.q 14<|.f<|.one 15<|.q 16<|.f<|.one 17<|.done) (by kernel_rfl) ?_
   have s1:=rowsV_set rLoose_len d2 (show j < d2.size by omega) d2[j - 1]!
   have s2:=rowsV_set rLoose_len (d2.setIfInBounds j d2[j - 1]!) (show j - 1 < (d2.setIfInBounds j d2[j - 1]!).size by simp;omega) d2[j]!
   simp [putAt] at s1 s2
   have hl3:=rowsV_len rLoose_len (d2.setIfInBounds j d2[j - 1]!)
   simp [j3] at hl3
   have c3:j * 6+6<=d.size * 6:=by omega
   have c4:(j - 1) * 6+6<=d.size * 6:=by omega
   simp [ob,wj,tj,hl2,c1,c2,g1,g2,c3,s1,hl3,c4,GH.set_set,nbs_map]
   refine ⟨⟨by omega,by omega⟩,by omega,⟨by omega,by omega⟩,NX.go (j - 1,swp d2 j (j - 1)) (by simp only;omega) ⟨by simp only;omega,by simp only;omega,by simp only;rw [swp_size];exact j3,?_,?_⟩ ?_⟩
   ·exact swp_all j4 (by omega) (by omega)
   ·rw [j5];exact insInner_go ⟨q1,by simpa [ltOf'] using q2⟩
   ·have w3:((j - 1:Nat):Int)=(j:Int) - 1:=by omega
    simp [nbs_only _ (hcap 0),wj,w3,s2,swp,vecO]
  ·have w2:IntKind.wrap .i64 ((i:Int)+1)=(i:Int)+1:=by rw [wrap64] <;> omega
   have hst:insInner (ltOf' cf) a j d2=d2:=insInner_stop fun q'=>by
    have h1:=q q'.1;have h2:=q'.2
    simp only [ltOf',decide_eq_true_eq] at h2;omega
   refine NX.go (i+1,d2) (by simp only;omega) ⟨by simp only;omega,by simp only;omega,j3,j4,?_⟩ (by simp [nbs_only _ (hcap 0),w2,vecO])
   rw [i5,insOuter,if_pos h,j5,hst]
 ·have e:insOuter (ltOf' cf) a b i d1=d1:=by rw [insOuter,if_neg (by omega)]
  rw [i5,e]
  exact fun hz=>hz.drop (by rw [GH.set_next];exact Nat.le_refl _)
end Go.Aft
end
section
set_option maxRecDepth 20000
namespace Go.Aft
open Go.Proofs.Tryz
open Go.Sort (swp insInner insOuter insertionSort)
@[simp] theorem rEvent_len (x:Event):(rEvent x).length=5:=by simp [rEvent,rRec]
theorem bits_Len64 (m:Nat) (hm:m < 256) (H:GH):ECall prog 275 [.d (.k (.int .u64 m))] H fun ce H'=>(∃ v:Int,ce=.ret (lvI v))/\H'=H:=by
 refine ECall.bodyN cx0_ok func275 rfl call275 (by rw [ntmps275];simp) rfl fun hf hw=>?_
 have h1:¬ (4294967296:Int)<=m:=by omega
 have h2:¬ (65536:Int)<=m:=by omega
 have h3:¬ (256:Int)<=m:=by omega
 have h4:IntKind.wrap .u8 (m:Int)=m:=by simp [IntKind.wrap,IntKind.bits,IntKind.signed];omega
 simp [ntmps275,results275,h1,h2,h3,h4]
 exact ⟨Nat.lt_of_lt_of_le hm (Nat.le_of_eq (by kernel_rfl)),fun hz=>hz.drop (Nat.le_refl _)⟩
theorem bits_Len (m:Nat) (hm:m < 256) (H:GH):ECall prog 218 [.d (.k (.int .u64 m))] H fun ce H'=>(∃ v:Int,ce=.ret (lvI v))/\H'=H:=by
 refine ECall.bodyN cx0_ok func218 rfl call218 (by rw [ntmps218];simp) rfl fun hf hw=>?_
 simp [ntmps218,results218]
 refine EC.of (bits_Len64 m hm H) (fun v H2 hR=>?_) (fun v H2 hR=>?_)
 ·obtain ⟨⟨n,e⟩,rfl⟩:=hR
  cases e
  simp
  exact fun hz=>hz.drop (Nat.le_refl _)
 ·obtain ⟨⟨n,e⟩,_⟩:=hR;cases e
end Go.Aft
end
section
set_option maxRecDepth 20000
namespace Go.Aft
open Go.Proofs.Tryz
theorem values_list (l:List Int) (b:Nat) (H:GH) (ho:H.obj b=some (valsO l)) (hl:l.length<=66) :
  ECall prog 155 [.gp b 0] H fun ce H'=>ce=.ret (sl (l.map rI))/\H'=H.set b (.fz (lvI l.length :: valsC l)):=by
 have cc:=cxK_ok (p:=kds [] [] [])
 refine ECall.bodyN (cxK_ok (p:=kds [] [] [])) func155 rfl call155 (by rw [ntmps155];simp) rfl fun hf hw=>?_
 have lb:=hw.lt ho
 have hvl:=valsC_len hl
 have hc:chunk 1 l.length (valsC l)=some (l.map rI):=by rw [valsC,List.map_append];exact chunk_ints _ _
 simp [ntmps155,results155]
 refine AW.draw cc [(7,.x)] (.q 0<|.q 1<|.q 2<|.q 3<|.q 4<|.q 5<|.q 6<|.f<|.one 7<|.q 8<|.done) (by kernel_rfl) ?_
 have h1:(0:Int)<=l.length:=by omega
 have h2:(l.length:Int)<=66:=by omega
 simp [ho,valsO,hc,h1,h2,hvl]
 exact fun hz=>hz.drop (by rw [GH.set_next];exact Nat.le_refl _)
structure Way where
 gone:Nat
 turned:Nat
 more:Nat
def rWay (w:Way):List DV:=[dI w.gone,dI w.turned,dI w.more]
def chgM (L:List Loose) (w:Way) (great:Bool):List Loose:=if great=true then L.take (w.gone+w.turned) else L.drop (L.length - (w.gone+w.turned))
def keptM (L:List Loose) (w:Way) (great:Bool):List Loose:=if great=true then L.drop (w.gone+w.turned) else L.take (L.length - (w.gone+w.turned))
theorem scene_changed (s:Scene) (L:List Loose) (hL:s.loose=sl (L.map rLoose)) (h60:L.length<=60) (w:Way) (hw:w.gone+w.turned<=L.length) (great:Bool) (n:Nat) (H:GH) (ho:H.obj n=some (sceneO s)) :
  ECall prog 107 [.gp n 0,lv (rWay w),.d (.k (.bool great))] H fun ce H'=>ce=.ret (.tup [sl ((chgM L w great).map rLoose),sl ((keptM L w great).map rLoose)])/\H'=H:=by
 have cc:=cxK_ok (p:=kds [4] [] [])
 refine ECall.bodyN (cxK_ok (p:=kds [4] [] [])) func107 rfl call107 (by rw [ntmps107];simp) rfl fun hf hz=>?_
 have ln:=hz.lt ho
 have w1:IntKind.wrap .i64 ((w.gone:Int)+w.turned)=(w.gone:Int)+w.turned:=by rw [wrap64] <;> omega
 have w2:IntKind.wrap .i64 ((L.length:Int) - ((w.gone:Int)+w.turned))=(L.length:Int) - ((w.gone:Int)+w.turned):=by rw [wrap64] <;> omega
 have t1:((w.gone:Int)+w.turned).toNat=w.gone+w.turned:=by omega
 have t2:((L.length:Int) - ((w.gone:Int)+w.turned)).toNat=L.length - (w.gone+w.turned):=by omega
 simp [ntmps107,results107,rWay,w1]
 cases great with
 | true =>
  simp
  refine AW.draw cc [] (.q 0<|.q 1<|.q 2<|.q 4<|.q 6<|.q 7<|.q 8<|.q 10<|.q 3<|.q 5<|.q 12<|.q 9<|.q 11<|.q 13<|.done) (by kernel_rfl) ?_
  simp [ho,sceneO,rShape,rRoom,rRec,dI,hL,t1]
  exact ⟨by omega,fun hz=>⟨hz.drop (Nat.le_refl _),by simp [chgM],by simp [keptM]⟩⟩
 | false =>
  simp [ho,sceneO,rShape,rRoom,rRec,dI,hL]
  refine AW.draw cc [] (.q 0<|.q 1<|.q 2<|.q 4<|.q 6<|.q 7<|.q 8<|.q 10<|.q 3<|.q 5<|.q 12<|.q 9<|.q 11<|.q 13<|.done) (by kernel_rfl) ?_
  simp [ho,sceneO,rShape,rRoom,rRec,dI,hL,w2,t2]
  exact ⟨by omega,fun hz=>⟨hz.drop (Nat.le_refl _),by simp [chgM],by simp [keptM]⟩⟩
end Go.Aft
end
section
set_option maxRecDepth 20000
namespace Go.Aft
open Go.Proofs.Tryz
structure VApp (e:TypeId) (sz:Nat) (H0:GH) (x:LV) (rows:List (List DV)) (H:GH):Prop where
 is:rows=[]/\x=.d (.k (.slice none 0 0)) \/ ∃ n g,H0.next<=n/\n < H.next/\x=.vs n g sz 0 rows.length/\H.obj n=some (.vec e g sz (flatD rows) false)/\rows ≠ []
 nx:H0.next<=H.next
 ob:∀ m,m < H0.next->H.obj m=H0.obj m
theorem VApp.nil {e:TypeId} {sz:Nat} {H:GH}:VApp e sz H (.d (.k (.slice none 0 0))) [] H:=⟨.inl ⟨rfl,rfl⟩,Nat.le_refl _,fun _ _=>rfl⟩
theorem VApp.plain {e:TypeId} {sz:Nat} {H0 H:GH} {x:LV} {rows:List (List DV)} (h:VApp e sz H0 x rows H):Plain x:=by
 rcases h.is with ⟨_,rfl⟩ | ⟨n,g,_,_,rfl,_⟩ <;> exact ⟨rfl,trivial,rfl,rfl⟩
theorem VApp.only {e:TypeId} {sz:Nat} {H0 H:GH} {x:LV} {rows:List (List DV)} (h:VApp e sz H0 x rows H) {k:List Nat}:x.only k:=by
 rcases h.is with ⟨_,rfl⟩ | ⟨n,g,_,_,rfl,_⟩ <;> simp [LV.only]
theorem VApp.nb {e:TypeId} {sz:Nat} {H0 H:GH} {x:LV} {rows:List (List DV)} (h:VApp e sz H0 x rows H):x.nb H.next:=by
 rcases h.is with ⟨rfl,rfl⟩ | ⟨n,g,_,h2,rfl,_⟩
 ·simp [LV.nb]
 ·exact h2
theorem VApp.mono {e:TypeId} {sz:Nat} {H0 H1 H2:GH} {x:LV} {rows:List (List DV)} (h:VApp e sz H0 x rows H1) (hn:H1.next<=H2.next) (ho:∀ m,m < H1.next->H2.obj m=H1.obj m):VApp e sz H0 x rows H2:=by
 refine ⟨?_,Nat.le_trans h.nx hn,fun m hm=>by have:=h.nx;rw [ho m (by omega)];exact h.ob m hm⟩
 rcases h.is with q | ⟨n,g,q1,q2,q3,q4,q5⟩
 ·exact .inl q
 ·exact .inr ⟨n,g,q1,by omega,q3,by rw [ho n q2];exact q4,q5⟩
theorem VApp.set {e:TypeId} {sz:Nat} {H0 H:GH} {x:LV} {rows:List (List DV)} (h:VApp e sz H0 x rows H) {k:Nat} (hk:k < H0.next) (o:GO):VApp e sz (H0.set k o) x rows (H.set k o):=by
 refine ⟨?_,h.nx,fun m hm=>?_⟩
 ·rcases h.is with q | ⟨n,g,q1,q2,q3,q4,q5⟩
  ·exact .inl q
  ·exact .inr ⟨n,g,q1,q2,q3,by rw [GH.set_obj,if_neg (by omega)];exact q4,q5⟩
 ·rw [GH.set_obj,GH.set_obj]
  split
  ·rfl
  ·exact h.ob m hm
theorem flatD_nbs (n:Nat) (rows:List (List DV)):nbs n (flatD rows):=by
 unfold flatD;exact (nbs_map n _).mpr trivial
theorem APK.appV {c:Cx} {s:S} {K:KT} {t:Nat} {T e:TypeId} {d ed:TyD} {a b:Operand} {H0:GH} {rows ys:List (List DV)} (hT:c.ty T=some d) (hd:d.k=.sl e) (he:c.ty e=some ed) (hsz:ed.sz ≠ 0)
  {x:LV} (ha:s.get a=x) (happ:VApp e ed.sz H0 x rows s.H) (hb:srcOf s ed.sz (s.arg b)=some (∀ r ∈ ys,r.length=ed.sz,ys.length,flatD ys)) (hbp:s.argP b) (hr:∀ r ∈ rows,r.length=ed.sz) (hy:∀ r ∈ ys,r.length=ed.sz)
  (hl:rows.length+ys.length<=34359738368) (hv:c.pub t=.vec)
  (hk:∀ x' H',VApp e ed.sz H0 x' (rows ++ ys) H'->s.H.next<=H'.next->(∀ m,m < s.H.next->(∀ g i l,x ≠ .vs m g ed.sz i l)->H'.obj m=s.H.obj m)->@AP K (({ s with H:=H' }:S).put (some t) x')):@APK c #[a,b] #[T,T] s (some t) K:=by
 obtain ⟨k,sz,z,bt⟩:=d
 simp only at hd;subst hd
 have hap:s.argP a:=by
  unfold S.argP;rw [ha]
  rcases happ.is with ⟨_,rfl⟩ | ⟨n,g,_,_,rfl,_⟩ <;> trivial
 have harg:s.arg a=x:=by
  unfold S.arg;rw [ha];exact happ.plain.un
 refine APK.ev ?_
 by_cases hys:ys=[]
 ·subst hys
  rcases id happ.is with ⟨rfl,e1⟩ | ⟨n,g,q1,q2,e1,e2,e3⟩
  ·rw [e1] at harg
   have hvec:vecBi c.ty c.pub s (some t) .append [T,T] [a,b]=some ⟨s.argP a/\s.argP b/\∀ r ∈ ([]:List (List DV)),r.length=ed.sz,.d (.k (.slice none 0 0)),.no⟩:=by
    simp only [vecBi,hT,he,harg,if_true,Option.bind_some,if_neg hsz,hv,hb,Option.map_some]
    rfl
   simp only [opX,hvec,Option.some_or,RK_some]
   refine ⟨⟨hap,hbp,hy⟩,?_⟩
   have:=hk (.d (.k (.slice none 0 0))) s.H ⟨.inl ⟨rfl,rfl⟩,happ.nx,happ.ob⟩ (Nat.le_refl _) fun _ _ _=>rfl
   exact this
  ·rw [e1] at harg
   have hvec:vecBi c.ty c.pub s (some t) .append [T,T] [a,b]=some ⟨s.argP a/\s.argP b/\∀ r ∈ ([]:List (List DV)),r.length=ed.sz,.vs n g ed.sz 0 rows.length,.no⟩:=by
    simp only [vecBi,hT,he,harg,e2,if_true,Option.bind_some,if_neg hsz,hv,hb,Option.map_some,and_self]
    rfl
   simp only [opX,hvec,Option.some_or,RK_some]
   refine ⟨⟨hap,hbp,hy⟩,?_⟩
   have:=hk (.vs n g ed.sz 0 rows.length) s.H ⟨.inr ⟨n,g,q1,q2,by simp,by simpa using e2,by simpa using e3⟩,happ.nx,happ.ob⟩ (Nat.le_refl _) fun _ _ _=>rfl
   exact this
 ·have hyl:ys.length ≠ 0:=fun q=>hys (List.eq_nil_of_length_eq_zero q)
  rcases id happ.is with ⟨rfl,e1⟩ | ⟨n,g,q1,q2,e1,e2,e3⟩
  ·rw [e1] at harg
   have hvec:vecBi c.ty c.pub s (some t) .append [T,T] [a,b]=some ⟨s.argP a/\s.argP b/\(∀ r ∈ ys,r.length=ed.sz)/\nbs s.H.next (flatD ys)/\ys.length<=34359738368,.vs s.H.next 0 ed.sz 0 ys.length,.newNm (.vec e 0 ed.sz (flatD ys) false)⟩:=by
    simp only [vecBi,hT,he,harg,if_true,Option.bind_some,if_neg hsz,hv,hb,Option.map_some,if_neg hyl]
   simp only [opX,hvec,Option.some_or,RK_some]
   simp only [List.length_nil,Nat.zero_add] at hl
   refine ⟨⟨hap,hbp,hy,flatD_nbs _ _,hl⟩,?_⟩
   refine hk (.vs s.H.next 0 ed.sz 0 ys.length) (s.H.add (.vec e 0 ed.sz (flatD ys) false)) ⟨.inr ⟨s.H.next,0,happ.nx,by rw [GH.add_next];omega,by simp,by rw [GH.add_obj,if_pos rfl];simp,by simpa using hys⟩,by rw [GH.add_next];have:=happ.nx;omega,fun m hm=>?_⟩ (by rw [GH.add_next];omega) (fun m hm _=>by rw [GH.add_obj,if_neg (by omega)])
   have:=happ.nx
   rw [GH.add_obj,if_neg (by omega)];exact happ.ob m hm
  ·rw [e1] at harg
   have hfl:=flat_len hr
   have hlt:¬ ((rows.length+ys.length) * ed.sz<=(flatD rows).length):=by
    rw [hfl,Nat.add_mul]
    have:0 < ys.length * ed.sz:=Nat.mul_pos (by omega) (by omega)
    omega
   have htk:(flatD rows).take (rows.length * ed.sz)=flatD rows:=List.take_of_length_le (by rw [hfl];exact Nat.le_refl _)
   have hvec:vecBi c.ty c.pub s (some t) .append [T,T] [a,b]=some ⟨s.argP a/\s.argP b/\(∀ r ∈ ys,r.length=ed.sz)/\nbs s.H.next (flatD ys)/\rows.length * ed.sz<=(flatD rows).length/\rows.length+ys.length<=34359738368,.vs n (g+1) ed.sz 0 (rows.length+ys.length),.setNm n (.vec e (g+1) ed.sz (flatD rows ++ flatD ys) false)⟩:=by
    simp only [vecBi,hT,he,harg,e2,if_true,Option.bind_some,if_neg hsz,hv,hb,Option.map_some,if_neg hyl,and_self,if_neg hlt,htk]
   simp only [opX,hvec,Option.some_or,RK_some]
   refine ⟨⟨hap,hbp,hy,flatD_nbs _ _,by rw [hfl];exact Nat.le_refl _,hl⟩,?_⟩
   refine hk (.vs n (g+1) ed.sz 0 (rows.length+ys.length)) (s.H.set n (.vec e (g+1) ed.sz (flatD rows ++ flatD ys) false)) ⟨.inr ⟨n,g+1,q1,q2,by simp,by rw [GH.set_obj,if_pos rfl,flatD_append],by simpa using fun q:rows=[]=>absurd q e3⟩,by rw [GH.set_next];exact happ.nx,fun m hm=>by rw [GH.set_obj,if_neg (by omega)];exact happ.ob m hm⟩ (by rw [GH.set_next];exact Nat.le_refl _) (fun m hm hne=>?_)
   rw [GH.set_obj,if_neg];intro e;subst e;exact hne _ _ _ e1
end Go.Aft
end
section
set_option maxRecDepth 20000
namespace Go.Aft
open Go.Proofs.Tryz
open Go.Sort (swp insInner insOuter insertionSort)
theorem thaw_lt {H H2:GH} (hw:nbH H) {n g sz:Nat} {rows:List (List DV)} (hn:H.next<=n) (h:∀ m,m < H.next->H2.obj m=H.obj m) {m:Nat} (hm:m < H.next):(if m=n then none else Option.map (GO.thaw n g sz rows) (H2.obj m))=H.obj m:=by
 rw [if_neg (by omega),h m hm]
 cases ho:H.obj m with
 | none=>rfl
 | some o=>simp only [Option.map_some];rw [GO.thaw_nb (N:=H.next) hn (hw.nb m o ho)]
theorem ints_Clone (x:Int) (l:List Int) (hl:l.length<=1000):AFun prog 147 [sl ((x :: l).map rI)] (sl ((x :: l).map rI)):=by
 intro H
 have cc:=cxK_ok (p:=kds [] [] [5])
 refine ECall.bodyNW (cxK_ok (p:=kds [] [] [5])) func147 rfl call147 (by rw [ntmps147];simp) rfl fun hf hw=>?_
 have hlen:∀ r ∈ l.map rI,r.length=1:=fun r hr=>by obtain ⟨_,_,rfl⟩:=List.mem_map.1 hr;rfl
 have hll:(l.map rI).length=l.length:=by simp
 rw [List.map_cons]
 have hx:(rI x).length=1:=rfl
 generalize rI x=r0 at hx |-
 generalize l.map rI=rows at hlen hll |-
 simp [ntmps147,results147]
 refine AW.seq cc ?_
 simp
 refine AW.seq cc ?_
 simp
 refine AW.seq cc ?_
 simp
 refine APK.ev ?_
 have h3:rows.length+1<=34359738368:=by omega
 have ob:∀ o,(H.add o).obj H.next=some o:=fun o=>by simp [GH.add_obj]
 have hnb:∀ m,nbs m (flatD (r0 :: rows)):=fun m=>flatD_nbs _ _
 have hfl:flatD (r0 :: rows) ≠ []:=fun q=>by have:=congrArg List.length q;rw [flat_len (sz:=1) (by simpa [hx] using hlen)] at this;simp at this
 generalize hF:flatD (r0 :: rows)=F at hnb hfl
 have h4:rows.length<=34359738367:=by omega
 simp [hx,ob,hF,hnb,h4,GH.add_set]
 refine ⟨hlen,?_⟩
 refine AW.thaw (n:=H.next) (g:=1) (sz:=1) (e:=3) (ex:=false) (r0 :: rows) (ob _) hF.symm (by simpa [hx] using hlen) ?_
 refine AW.ev cc ?_
 simp
 exact fun hz=>Drop_same (by simp [GH.add_next]) (fun m hm=>thaw_lt hw (Nat.le_refl _) (fun k hk=>by rw [GH.add_obj,if_neg (by omega)]) hm) hw.none
def marksV (l:List News) (srcs:Int):LV:=if formedB l srcs=true then .tup [sl ((((List.range srcs.toNat).map fun k=>markM l (k:Nat))).map rI),lvI 0] else .tup [sl [],lvI 2]
theorem hist_Marks (l:List News) (srcs:Int):AFun prog 99 [sl (l.map rNews),lvI srcs] (marksV l srcs):=by
 intro H
 have cc:=cxS_ok (p:=kds [] [6] [])
 refine ECall.bodyNW (cxS_ok (p:=kds [] [6] [])) func99 rfl call99 (by rw [ntmps99];simp) rfl fun hf hw=>?_
 have hfm:=hist_formed l srcs
 simp at hfm
 simp [ntmps99,results99] at hf |-
 refine AW.seq cc ?_
 simp
 refine AW.seq cc ?_
 simp
 refine EC.afun hfm ?_
 cases hp:formedB l srcs with
 | false =>
  simp
  refine fun hz=>⟨hz.drop (Nat.le_refl _),by simp [marksV,hp]⟩
 | true =>
  obtain ⟨hsrc,hlen⟩:=formed_src hp
  have hs4:1<=srcs/\srcs<=4:=by
   have:=hp
   simp only [formedB,plainB,Bool.and_eq_true,decide_eq_true_eq] at this
   have:=this.1.1.1
   simp [inB] at this
   exact this
  simp
  refine AW.seq cc ?_
  simp
  have hall:=hist_all l hsrc H
  simp at hall
  refine EC.of hall (fun v H1 hR=>?_) (fun v H1 hR=>?_)
  rotate_left
  ·cases hR.1
  obtain ⟨e,es0,hm0,hH1⟩:=hR
  cases e
  have b1:H1.next=H.next+2:=by rw [hH1];rfl
  have b2:H1.obj (H.next+1)=some (heardO H.next l):=by rw [hH1];simp [GH.add_obj,GH.add_next]
  have b4:∀ k,k < H.next->H1.obj k=H.obj k:=fun k hk=>by rw [hH1,GH.add_obj,GH.add_next,if_neg (by omega),GH.add_obj,if_neg (by omega)]
  have ob1:∀ o,(H1.add o).obj H1.next=some o:=fun o=>by simp [GH.add_obj]
  simp [b2,heardO,GH.add_set,ob1]
  refine AW.ev cc ?_
  have hs':srcs=1 \/ srcs=2 \/ srcs=3 \/ srcs=4:=by omega
  have hr:∀ x:Int,[DV.k (Value.int IntKind.i64 x)]=rI x:=fun _=>rfl
  have hcl:∀ (a:Int) (l:List Int),l.length<=3->AFun prog 147 [.d (.sl (rI a :: l.map rI))] (.d (.sl (rI a :: l.map rI))):=fun a l h=>by
   have:=ints_Clone a l (by omega)
   simpa using this
  have hd:∀ a b:GO,Drop H ((H1.add a).set H1.next b) H:=fun a b=>Drop_same (by rw [GH.set_next,GH.add_next];omega) (fun m hm=>by rw [GH.set_obj,if_neg (by omega),GH.add_obj,if_neg (by omega)];exact b4 m hm) hw.none
  rcases hs' with rfl | rfl | rfl | rfl
  all_goals
   simp [ob1,chunk,toDs,toD]
   simp only [hr]
  ·refine EC.afun (hcl (markM l 0) [] (by simp)) ?_
   simp
   exact fun _=>⟨hd _ _,by simp [marksV,hp,List.range_succ]⟩
  ·refine EC.afun (hcl (markM l 0) [markM l 1] (by simp)) ?_
   simp
   exact fun _=>⟨hd _ _,by simp [marksV,hp,List.range_succ]⟩
  ·refine EC.afun (hcl (markM l 0) [markM l 1,markM l 2] (by simp)) ?_
   simp
   exact fun _=>⟨hd _ _,by simp [marksV,hp,List.range_succ]⟩
  ·refine EC.afun (hcl (markM l 0) [markM l 1,markM l 2,markM l 3] (by simp)) ?_
   simp
   exact fun _=>⟨hd _ _,by simp [marksV,hp,List.range_succ]⟩
end Go.Aft
end
