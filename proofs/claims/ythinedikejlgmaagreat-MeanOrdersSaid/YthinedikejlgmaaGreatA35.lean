import Derived.Test.YthinedikejlgmaaGreatA34
set_option linter.all false
section
set_option maxRecDepth 20000
namespace Go.Aft
open Go.Proofs.Tryz
open Go.Sort (swp insInner insOuter insertionSort SWO PermIn SortedIn)
def nilS:LV:=.d (.k (.slice none 0 0))
@[simp] theorem nilS_eq:nilS=.d (.k (.slice none 0 0)):=rfl
end Go.Aft
end
section
set_option maxRecDepth 20000
namespace Go.Aft
open Go.Proofs.Tryz
open Go.Sort (swp insInner insOuter insertionSort SWO PermIn SortedIn)
theorem b9i (F:FuncId):AFun prog 256 [nilS,lvI 0,lvI 0,.fn (.func F) [] []] (.tup []):=by
 have cc:=a0g (p:=kds [] [] [])
 refine AFun.body (a0g (p:=kds [] [] [])) func256 rfl call256 (by rw [ntmps256];simp) rfl fun hf H=>?_
 have w1:IntKind.wrap .i64 1=1:=rfl
 simp [ntmps256,results256,w1]
 refine AW.a0w cc (fun _:Unit=>⟨[(0,nilS),(1,lvI 0),(2,lvI 0),(3,.fn (.func F) [] []),(8,lvI 1)],[],H⟩) (fun _=>0) (fun _=>True) () ⟨trivial,by simp [LV.only,a3c]⟩ ?_
 rintro _ _
 simp
theorem e4a (lim:Int) (F:FuncId):AFun prog 223 [nilS,lvI 0,lvI 0,lvI lim,.fn (.func F) [] []] (.tup []):=by
 have cc:=a0g (p:=kds [] [] [])
 refine AFun.body (a0g (p:=kds [] [] [])) func223 rfl call223 (by rw [ntmps223];simp) rfl fun hf H=>?_
 have hi:=b9i F
 simp [ntmps223,results223] at hi |-
 refine AW.a0w cc (fun _:Unit=>⟨[(0,nilS),(1,lvI 0),(2,lvI 0),(3,lvI lim),(4,.fn (.func F) [] []),(10,.d (.k (.bool true))),(11,.d (.k (.bool true)))],[],H⟩) (fun _=>0) (fun _=>True) () ⟨trivial,by simp [LV.only,a3c]⟩ ?_
 rintro _ _
 have w0:IntKind.wrap .i64 0=0:=rfl
 simp [w0,LV.nb,nbs]
 refine EC.afun hi ?_
 simp
def recK (r:Rec):List Int:=[r.at_,r.key,r.val]
def e1c (a b:Item):Int:=lexC (recK a.rec_) (recK b.rec_)
theorem b6y (a b:Item):e1c a b < 0 ↔ a2e a.rec_ b.rec_=true:=by
 have h3:∀ x y:Int,x < y/\cmpI x y = -1 \/ y < x/\cmpI x y=1 \/ x=y/\cmpI x y=0:=fun x y=>by unfold cmpI;split <;> (try split) <;> omega
 have e1:=h3 a.rec_.at_ b.rec_.at_
 have e2:=h3 a.rec_.key b.rec_.key
 have e3:=h3 a.rec_.val b.rec_.val
 simp only [e1c,recK,lexC,a2e,decide_eq_true_eq]
 generalize cmpI a.rec_.at_ b.rec_.at_=x at *
 generalize cmpI a.rec_.key b.rec_.key=y at *
 generalize cmpI a.rec_.val b.rec_.val=z at *
 split
 ·split
  ·split <;> omega
  ·omega
 ·omega
theorem e5u:SWO (Go.Proofs.ltOf e1c) where
 irrefl x:=by simp only [Go.Proofs.ltOf];rw [decide_eq_false_iff_not,b6y,a9o];simp
 trans x y z h1 h2:=by
  simp only [Go.Proofs.ltOf,decide_eq_true_eq,b6y] at *
  exact a5s h1 h2
 ntrans x y z h1 h2:=by
  simp only [Go.Proofs.ltOf,decide_eq_false_iff_not,b6y,a2e,decide_eq_true_eq] at *
  omega
theorem c8g (a b:Item):AFun prog 184 [lv (a0i a),lv (a0i b)] (lvI (e1c a b)):=by
 refine AFun.body (a0g (p:=kds [2,3] [] [])) func184 rfl call184 (by rw [ntmps184];simp) rfl fun hf H=>?_
 have h:=b1m (recK a.rec_) (recK b.rec_)
 simp [recK,rI] at h
 have hr:List.range' 0 3=[0,1,2]:=rfl
 simp [ntmps184,results184,a0i,hr]
 refine EC.afun h ?_
 simp [e1c,recK]
theorem e4c (l:List Item) (hl:l.length<=1000000000) (x:LV) (H0 H:GH) (hv:VApp 86 4 H0 x (l.map a0i) H) :
  a0j prog 183 [x,.fn (.func 184) [] []] H fun ce H'=>(∃ v,ce=.ret v)/\H'.next=H.next/\∃ l':List Item,l'.Perm l/\l'.Pairwise (fun a b=>a2e b.rec_ a.rec_=false)/\VApp 86 4 H0 x (l'.map a0i) H':=by
 have cc:=a0g (p:=kds [] [] [])
 rcases id hv.is with ⟨e1,e2⟩ | ⟨n,g,q1,q2,q3,q4,q5⟩
 ·have hxs:l=[]:=by simpa using e1
  subst hxs;subst e2
  refine a0j.a1j (a0g (p:=kds [] [] [])) func183 rfl call183 (by rw [ntmps183];simp) rfl fun hf hw=>?_
  have hpdq:=fun lim=>e4a lim 184
  have w0:IntKind.wrap .u64 0=0:=rfl
  simp [ntmps183,results183,w0] at hpdq |-
  refine EC.of (bits_Len 0 (by omega) H) (fun v H2 hR=>?_) (fun v H2 hR=>by obtain ⟨⟨_,e⟩,_⟩:=hR;cases e)
  obtain ⟨⟨lim,e⟩,rfl⟩:=hR
  cases e
  simp [LV.nb,nbs]
  refine EC.afun (hpdq lim) ?_
  simp
  exact fun hz=>⟨_,hz.drop (Nat.le_refl _),rfl,by simpa using hv⟩
 ·have hxs:l ≠ []:=by simpa using q5
  subst q3
  refine a0j.a1j (a0g (p:=kds [] [] [])) func183 rfl call183 (by rw [ntmps183];simp) rfl fun hf hw=>?_
  have hlp:0 < l.length:=List.length_pos_iff.2 hxs
  obtain ⟨k,hk,hb⟩:=e6d l.length (by omega)
  have hs:=e8v (cf:=e1c) e5u (F:=184) c8g l.toArray (by simpa using hlp) (by simp;omega) k hk n g false H (by simpa [vecO,d1j] using q4)
  have wl:IntKind.wrap .u64 (l.length:Int)=l.length:=by
   show (if (false && decide ((l.length:Int) % 18446744073709551616 ≥ 9223372036854775808))=true then (l.length:Int) % 18446744073709551616 - 18446744073709551616 else (l.length:Int) % 18446744073709551616)=_
   simp;omega
  simp at hs hb
  simp [ntmps183,results183,q2,wl]
  refine EC.afun hb ?_
  simp [q2,LV.nb,nbs]
  refine EC.of hs (fun v H2 hR=>?_) (fun v H2 hR=>by obtain ⟨⟨_,e⟩,_⟩:=hR;cases e)
  obtain ⟨_,d',hp,hs',rfl⟩:=hR
  have hsz:d'.size=l.length:=by simpa using hp.1
  have hperm:d'.toList.Perm l:=by
   have h3:=hp.2.2
   try simp only [List.size_toArray] at h3
   rw [show (l.toArray.extract 0 l.length).toList=l by simp,show (d'.extract 0 l.length).toList=d'.toList by rw [<- hsz];simp] at h3
   exact h3
  have hso:d'.toList.Pairwise (fun a b=>a2e b.rec_ a.rec_=false):=by
   rw [List.pairwise_iff_getElem]
   intro i j hi hj hij
   have hi':i < d'.size:=by simpa using hi
   have hj':j < d'.size:=by simpa using hj
   have h3:=hs' i j (Nat.zero_le _) hij (by first | omega | (simp;omega))
   rw [getElem!_pos _ i hi',getElem!_pos _ j hj'] at h3
   simp only [Go.Proofs.ltOf,decide_eq_false_iff_not,b6y] at h3
   simpa using h3
  simp
  refine fun hz=>⟨_,hz.drop (by rw [GH.a0l];exact Nat.le_refl _),by rw [GH.a0l],d'.toList,hperm,hso,.inr ⟨n,g,q1,q2,by simp [hsz],?_,?_⟩,by rw [GH.a0l];exact hv.nx,fun m hm=>?_⟩
  ·rw [GH.a0n];simp [vecO,d1j]
  ·intro q
   have:=congrArg List.length q
   simp only [List.length_map,List.length_nil,Array.length_toList] at this;omega
  ·rw [GH.a0f,if_neg (by omega)];exact hv.ob m hm
end Go.Aft
end
section
set_option maxRecDepth 20000
namespace Go.Aft
open Go.Proofs.Tryz
open Go.Sort (swp insInner insOuter insertionSort SWO PermIn SortedIn)
theorem a2k {α:Type} [DecidableEq α]:∀ {a b:List α},a.Nodup->(∀ x ∈ a,x ∈ b)->a.length<=b.length
 | [],b,_,_=>by simp
 | x :: a,b,h,hs=>by
  rw [List.nodup_cons] at h
  have hx:=hs x (List.mem_cons_self ..)
  have:=a2k (a:=a) (b:=b.erase x) h.2 fun y hy=>(List.mem_erase_of_ne (fun e:y=x=>h.1 (by rw [<- e];exact hy))).2 (hs y (List.mem_cons_of_mem _ hy))
  rw [List.length_erase_of_mem hx] at this
  have hpos:0 < b.length:=List.length_pos_of_mem hx
  simp only [List.length_cons];omega
end Go.Aft
end
section
set_option maxRecDepth 20000
namespace Go.Aft
open Go.Proofs.Tryz
def kR (r:Rec):Value:=.agg #[.int .i64 r.at_,.int .i64 r.key,.int .i64 r.val]
theorem e3z {a b:Rec}:kEq (kR a) (kR b)=decide (a=b):=by
 obtain ⟨a1,a2,a3⟩:=a
 obtain ⟨b1,b2,b3⟩:=b
 simp [kEq,kR,allEq,scEq];rw [Bool.eq_iff_iff];simp [and_assoc]
def encA (M:List Item):List (Value × LV):=M.map fun x=>(kR x.rec_,lvI x.n)
theorem d7e (M:List Item):∀ (a:Value) (b:LV),(a,b) ∈ encA M->(KK.ag [.int .i64,.int .i64,.int .i64]).has a=true:=fun a b h=>by
 obtain ⟨x,_,q⟩:=List.mem_map.1 h
 cases q;rfl
def oldA (r:Rec):List Item->Int
 | []=>0
 | x :: l=>if r=x.rec_ then x.n else oldA r l
def addA (x:Item):List Item->List Item
 | []=>[x]
 | y :: l=>if x.rec_=y.rec_ then ⟨x.rec_,y.n+x.n⟩ :: l else y :: addA x l
theorem c2j (r:Rec):∀ M:List Item,(a1c (kR r) (encA M)).getD (.d (.k (.int .i64 0)))=lvI (oldA r M)
 | []=>rfl
 | x :: M=>by
  have ih:=c2j r M
  simp only [encA,List.map_cons,a1c,e3z,oldA] at ih |-
  by_cases e:r=x.rec_
  ·simp [e]
  ·simp [e];exact ih
theorem b8n (x:Item):∀ M:List Item,mput (kR x.rec_) (lvI (oldA x.rec_ M+x.n)) (encA M)=encA (addA x M)
 | []=>by simp [encA,mput,oldA,addA]
 | y :: M=>by
  have ih:=b8n x M
  simp only [encA,List.map_cons,mput,e3z,oldA,addA] at ih |-
  by_cases e:x.rec_=y.rec_
  ·simp [e]
  ·simp only [e,decide_false,Bool.false_eq_true,if_false,List.map_cons]
   rw [ih]
theorem d7v {x y:Item}:∀ {M:List Item},y ∈ addA x M->y.rec_=x.rec_ \/ y ∈ M
 | [],h=>by simp [addA] at h;exact .inl (by rw [h])
 | z :: M,h=>by
  rw [addA] at h
  split at h
  ·rcases List.mem_cons.1 h with q | q
   ·exact .inl (by rw [q])
   ·exact .inr (by simp [q])
  ·rcases List.mem_cons.1 h with q | q
   ·exact .inr (by simp [q])
   ·exact (d7v q).imp id fun q=>by simp [q]
theorem e6l {x:Item}:∀ {M:List Item},M.Pairwise (fun a b=>a.rec_ ≠ b.rec_)->(addA x M).Pairwise (fun a b=>a.rec_ ≠ b.rec_)
 | [],h=>by simp [addA]
 | z :: M,h=>by
  have h':=List.pairwise_cons.1 h
  rw [addA]
  split
  ·rename_i e
   exact List.pairwise_cons.2 ⟨fun w hw=>by simp only;rw [e];exact h'.1 w hw,h'.2⟩
  ·rename_i e
   refine List.pairwise_cons.2 ⟨fun w hw=>?_,e6l h'.2⟩
   rcases d7v hw with q | q
   ·rw [q];exact fun q=>e q.symm
   ·exact h'.1 w q
theorem d5p {r:Rec}:∀ {M:List Item},M.Pairwise (fun a b=>a.rec_ ≠ b.rec_)->oldA r M=cntM M r
 | [],_=>rfl
 | x :: M,h=>by
  have h':=List.pairwise_cons.1 h
  rw [oldA,cntM]
  by_cases e:r=x.rec_
  ·rw [if_pos e,if_pos e.symm,b0h fun y hy q=>h'.1 y hy (by rw [q,e])];omega
  ·rw [if_neg e,if_neg fun q=>e q.symm,d5p h'.2];omega
theorem c9u {x:Item} {r:Rec}:∀ M:List Item,cntM (addA x M) r=cntM M r+if x.rec_=r then x.n else 0
 | []=>by simp [addA,cntM]
 | y :: M=>by
  rw [addA]
  split
  ·rename_i e
   rw [cntM,cntM,e];simp only
   split <;> omega
  ·rw [cntM,cntM,c9u M];omega
theorem d7w (x:Item):∀ M:List Item,(addA x M).length<=M.length+1
 | []=>by simp [addA]
 | y :: M=>by
  rw [addA]
  split
  ·simp
  ·have:=d7w x M;simp;omega
def inT (top:Int) (x:Item):Bool:=decide (0<=x.rec_.at_/\x.rec_.at_<=top)
def accA (l:List Item):List Item:=l.foldl (fun M x=>addA x M) []
theorem d6w:∀ (l M:List Item),M.Pairwise (fun a b=>a.rec_ ≠ b.rec_)->(l.foldl (fun M x=>addA x M) M).Pairwise (fun a b=>a.rec_ ≠ b.rec_)
 | [],M,h=>h
 | x :: l,M,h=>by rw [List.foldl_cons];exact d6w l _ (e6l h)
theorem c9k {r:Rec}:∀ (l M:List Item),cntM (l.foldl (fun M x=>addA x M) M) r=cntM M r+cntM l r
 | [],M=>by simp [cntM]
 | x :: l,M=>by rw [List.foldl_cons,c9k l,c9u,cntM];omega
theorem e6q (l:List Item):(accA l).Pairwise (fun a b=>a.rec_ ≠ b.rec_):=d6w l [] .nil
theorem d7x (l:List Item) (r:Rec):cntM (accA l) r=cntM l r:=by rw [accA,c9k];simp [cntM]
theorem e6p (l:List Item) (x:Item):accA (l ++ [x])=addA x (accA l):=by simp [accA]
theorem f0o (l:List Item):(accA l).length<=l.length:=by
 have:∀ (l M:List Item),(l.foldl (fun M x=>addA x M) M).length<=M.length+l.length:=by
  intro l
  induction l with
  | nil=>intro M;simp
  | cons x l ih=>intro M;rw [List.foldl_cons];have:=ih (addA x M);have:=d7w x M;simp;omega
 simpa [accA] using this l []
theorem c3j {r:Rec} {b:Int}:∀ {l:List Item},(∀ x ∈ l,-b<=x.n/\x.n<=b)->0<=b->-(b * l.length)<=cntM l r/\cntM l r<=b * l.length
 | [],_,_=>by simp [cntM]
 | x :: l,h,hb=>by
  have ih:=c3j (r:=r) (l:=l) (fun y hy=>h y (List.mem_cons_of_mem _ hy)) hb
  have hx:=h x (by simp)
  have e:b * ((x :: l).length:Int)=b * (l.length:Int)+b:=by rw [List.length_cons,Int.natCast_add,Int.mul_add];simp
  rw [cntM,e]
  split <;> omega
def b7d (M:List Item) (seen:List Nat):List Item:=(seen.map fun i=>M.getD i default).filter fun x=>decide (x.n ≠ 0)
theorem d8q {M:List Item} {seen:List Nat} (hn:seen.Nodup) (hb:∀ i ∈ seen,i < M.length) (ha:∀ i,i < M.length->i ∈ seen):(b7d M seen).Perm (M.filter fun x=>decide (x.n ≠ 0)):=by
 have h1:seen.Perm (List.range M.length):=(List.perm_ext_iff_of_nodup hn List.nodup_range).2 fun i=>by
  rw [List.mem_range];exact ⟨hb i,ha i⟩
 have h2:(List.range M.length).map (fun i=>M.getD i default)=M:=by
  refine List.ext_getElem (by simp) fun i h1 h2=>?_
  simp [h2]
 unfold b7d
 have:=(h1.map (fun i=>M.getD i default)).filter (fun x=>decide (x.n ≠ 0))
 rw [h2] at this;exact this
theorem a1b (l:List Item):∀ r ∈ l.map a0i,r.length=4:=fun r hr=>by obtain ⟨_,_,rfl⟩:=List.mem_map.1 hr;rfl
theorem d3y {l l':List Item} {seen:List Nat} (hn:seen.Nodup) (hb:∀ i ∈ seen,i < (accA l).length) (ha:∀ i,i < (accA l).length->i ∈ seen) (hp:l'.Perm (b7d (accA l) seen)) (hs:l'.Pairwise (fun a b=>a2e b.rec_ a.rec_=false)):l'=bagM l:=by
 have hperm:=hp.trans (d8q hn hb ha)
 have hnd:l'.Pairwise (fun a b=>a.rec_ ≠ b.rec_):=hperm.symm.pairwise ((e6q l).filter _) fun {a b} q e=>q e.symm
 have hinc:IncB l':=by
  have:=hs.and hnd
  refine this.imp fun {a b} q=>?_
  cases h:a2e a.rec_ b.rec_ with
  | true=>rfl
  | false=>exact absurd (b8e h q.1) q.2
 have hz:∀ x ∈ l',x.n ≠ 0:=fun x hx=>by
  have:=hperm.mem_iff.1 hx
  simpa using (List.mem_filter.1 this).2
 refine c6b hinc hz fun r=>?_
 rw [b9w hperm,<- d7x l]
 generalize accA l=M
 induction M with
 | nil=>rfl
 | cons x M ih =>
  rw [List.filter_cons]
  by_cases e:x.n=0
  ·simp only [e,ne_eq,not_true_eq_false,decide_false,Bool.false_eq_true,if_false,cntM,ih]
   split <;> omega
  ·simp only [ne_eq,e,not_false_eq_true,decide_true,if_true,cntM]
   rw [<- ih]
end Go.Aft
end
section
set_option maxRecDepth 20000
namespace Go.Aft
open Go.Proofs.Tryz
theorem a9u {k:Value} {v:LV} (hk:kEq k k=true):∀ es:List (Value × LV),a1c k (mput k v es)=some v
 | []=>by simp [mput,a1c,hk]
 | e :: es=>by
  simp only [mput]
  cases h:kEq k e.1
  ·simp only [Bool.false_eq_true,if_false,a1c,h,a9u hk es]
  ·simp only [if_true,a1c,hk]
theorem a3f:∀ (n:Nat) (l:List Nat),l.Nodup->(∀ i ∈ l,i < n)->l.length<=n
 | 0,l,_,h=>by
  cases l with
  | nil=>simp
  | cons a l=>exact absurd (h a (by simp)) (by omega)
 | n+1,l,hn,h=>by
  have h1:=a3f n (l.erase n) (hn.erase n) fun i hi=>by
   have h2:=h i (List.mem_of_mem_erase hi)
   have h3:i ≠ n:=fun e=>by subst e;exact hn.not_mem_erase hi
   omega
  have h4:l.length<=(l.erase n).length+1:=by rw [List.length_erase];split <;> omega
  omega
theorem b8s (l:List Item) (top:Int) (hlen:l.length<=1000000) (hn:∀ x ∈ l,-1000000000000<=x.n/\x.n<=1000000000000):AFun prog 135 [sl (l.map a0i),lvI top] (sl ((a1i l top).map a0i)):=by
 intro H
 have cc:=a6j (p:=kds [] [] [53])
 refine a0j.a3a (a6j (p:=kds [] [] [53])) func135 rfl call135 (by rw [ntmps135];simp) rfl fun hf hw=>?_
 simp [ntmps135,results135] at hf |-
 refine AW.seq cc ?_
 simp
 refine AW.seq cc ?_
 simp
 refine AW.seq cc ?_
 simp
 have ob:∀ X,(H.add X).obj H.next=some X:=fun X=>by rw [GH.a0b,if_pos rfl]
 refine AW.a0w cc (fun i:Nat=>⟨[(1,lvI top),(5,.gm H.next),(12,.d (.sl (l.map a0i))),(13,lvI l.length),(14,lvI i)],[],H.add (.map (encA (accA ((l.take i).filter (inT top)))))⟩) (fun i=>l.length - i) (fun i=>i<=l.length) 0 ⟨Nat.zero_le _,by simp [accA,encA]⟩ fun i hi=>?_
 simp
 refine ⟨fun h=>?_,fun h=>?_⟩
 ·have hx:=hn l[i] (List.getElem_mem h)
  obtain ⟨x,hxe⟩:∃ x,l[i]=x:=⟨_,rfl⟩
  have htk:l.take (i+1)=l.take i ++ [x]:=by rw [<- a0p h,hxe]
  obtain ⟨M,hM⟩:∃ M,accA ((l.take i).filter (inT top))=M:=⟨_,rfl⟩
  have hMb:-1000000000000000000<=oldA x.rec_ M/\oldA x.rec_ M<=1000000000000000000:=by
   rw [<- hM,d5p (e6q _),d7x]
   have hb:=c3j (r:=x.rec_) (b:=1000000000000) (l:=(l.take i).filter (inT top)) (fun y hy=>hn y (List.mem_of_mem_take (List.mem_filter.1 hy).1)) (by omega)
   have hle:((l.take i).filter (inT top)).length<=1000000:=Nat.le_trans (List.length_filter_le _ _) (by simp;omega)
   omega
  rw [hxe] at hx
  simp [h,List.getElem?_eq_getElem h,hxe,a0i]
  have hwr:IntKind.wrap .i64 (oldA x.rec_ M+x.n)=oldA x.rec_ M+x.n:=by rw [wrap64] <;> omega
  have hfi:inT top x=true->accA ((l.take (i+1)).filter (inT top))=addA x M:=fun q=>by
   rw [htk,List.filter_append,List.filter_cons,if_pos q,List.filter_nil,e6p,hM]
  have hfo:inT top x=false->accA ((l.take (i+1)).filter (inT top))=M:=fun q=>by
   rw [htk,List.filter_append,List.filter_cons,if_neg (by simp [q]),List.filter_nil,List.append_nil,hM]
  have hgo:∀ q:0<=x.rec_.at_/\x.rec_.at_<=top,inT top x=true:=fun q=>by simp [inT,q]
  have hno:∀ q:¬ (0<=x.rec_.at_/\x.rec_.at_<=top),inT top x=false:=fun q=>by simpa [inT] using q
  have hkr:Value.agg #[.int .i64 x.rec_.at_,.int .i64 x.rec_.key,.int .i64 x.rec_.val]=kR x.rec_:=rfl
  have hkk:kEq (kR x.rec_) (kR x.rec_)=true:=by rw [e3z];simp
  have hkey:=eq_true (d7e M)
  have hget:=c2j x.rec_ M
  have hput:=b8n x M
  have hput0:mput (kR x.rec_) (.d (.k (.int .i64 (oldA x.rec_ M)))) (encA M)=encA (addA ⟨x.rec_,0⟩ M):=by
   have:=b8n ⟨x.rec_,0⟩ M
   simpa using this
  have hlt:midx (kR x.rec_) (encA M) < (encA (addA ⟨x.rec_,0⟩ M)).length:=by rw [<- hput0];exact e3n _
  have hms:mset (midx (kR x.rec_) (encA M)) (.d (.k (.int .i64 (oldA x.rec_ M+x.n)))) (encA (addA ⟨x.rec_,0⟩ M))=encA (addA x M):=by
   rw [<- hput0,c8a];exact hput
  have hkey0:=eq_true (d7e (addA ⟨x.rec_,0⟩ M))
  have hget0:(a1c (kR x.rec_) (encA (addA ⟨x.rec_,0⟩ M))).getD (.d (.k (.int .i64 0)))=lvI (oldA x.rec_ M):=by
   rw [<- hput0,a9u hkk];rfl
  have hasK:(KK.ag [.int .i64,.int .i64,.int .i64]).has (kR x.rec_)=true:=rfl
  have hset:∀ X Y,(H.add X).set H.next Y=H.add Y:=fun X Y=>GH.a1v
  refine ⟨fun c1 c2=>?_,fun c=>?_⟩
  ·rw [hM]
   have hq:=hfi (hgo ⟨c1,c2⟩)
   refine AW.draw cc [] (.q 0<|.q 1<|.q 4<|.q 2<|.q 5<|.f (.cons 3 (.q 6<|.f<|.one 7<|.q 8<|.f<|.one 9<|.done) (.cons 7 (.q 8<|.q 3<|.q 6<|.f<|.one 9<|.done) (.nil)))) (by kernel_rfl) ?_
   simp [ob,hkr,hkey,hget,hwr,hlt,hput0,hms,hkey0,hget0,hasK,hset]
   have hw':=wrap_succ (n:=9223372036854775807) (show i < 9223372036854775807 by omega)
   exact ⟨NX.go (i+1) (by omega) h (by simp [hq,hw']),NX.go (i+1) (by omega) h (by simp [hq,hw'])⟩
  ·have hq:=hfo (hno fun q=>by have:=c q.1;omega)
   rw [hM] at *
   exact NX.go (i+1) (by omega) h (by simp [hq,wrap_succ (n:=9223372036854775807) (show i < 9223372036854775807 by omega)])
 ·have e:i=l.length:=by omega
  subst e
  rw [List.take_length]
  obtain ⟨L,hL⟩:∃ L,l.filter (inT top)=L:=⟨_,rfl⟩
  obtain ⟨M,hM⟩:∃ M,accA L=M:=⟨_,rfl⟩
  have hsum:a1i l top=bagM L:=by rw [<- hL];rfl
  have hMl:M.length<=1000000:=by
   rw [<- hM];exact Nat.le_trans (f0o L) (by rw [<- hL];exact Nat.le_trans (List.length_filter_le _ _) hlen)
  rw [hL,hM,hsum]
  have hel:(encA M).length=M.length:=by simp [encA]
  obtain ⟨es,hes⟩:∃ es,encA M=es:=⟨_,rfl⟩
  have hkeys:es.all (fun e=>b4w e.1)=true:=List.all_eq_true.2 fun e he=>by
   rw [<- hes] at he
   obtain ⟨x,_,q⟩:=List.mem_map.1 he
   rw [<- q];rfl
  rw [hes] at hel |-
  refine AW.seq cc ?_
  simp
  refine AW.seq cc ?_
  simp [ob]
  have b1:(H.add (.map es)).next=H.next+1:=rfl
  refine AW.a0w cc (fun a:List Nat × LV × GH=>⟨[(8,a.2.1),(40,.gp (H.next+1) 0)],[],a.2.2⟩) (fun a=>unm es.length (fun i=>decide (i ∈ a.1)))
   (fun a=>a.1.Nodup/\(∀ i ∈ a.1,i < es.length)/\VApp 86 4 ((H.add (.map es)).add (.iter H.next es.length a.1 es.length)) a.2.1 ((b7d M a.1).map a0i) a.2.2)
   ([],.d (.k (.slice none 0 0)),(H.add (.map es)).add (.iter H.next es.length [] es.length)) ⟨⟨by simp,by simp,by simpa [b7d] using VApp.nil⟩,by simp [b1]⟩ ?_
  rintro ⟨seen,x,H2⟩ ⟨s1,s2,hv⟩
  simp only at s1 s2 hv
  have oi:H2.obj (H.next+1)=some (.iter H.next es.length seen es.length):=by rw [hv.ob _ (by rw [GH.a0a];omega),GH.a0b,if_pos b1.symm]
  have om:H2.obj H.next=some (.map es):=by rw [hv.ob _ (by rw [GH.a0a];omega),GH.a0b,if_neg (by omega)];exact ob _
  simp
  refine ST.next (n:=H.next+1) (m:=H.next) (seen:=seen) (es:=es) (by simp) oi om (by simp) rfl rfl hkeys (fun i e he hi=>?_) (fun hend=>?_)
  ·have hi':=(List.getElem?_eq_some_iff.1 he).1
   obtain ⟨y,hy,hk⟩:∃ y,M[i]?=some y/\e=(kR y.rec_,lvI y.n):=by
    rw [<- hes] at he
    simp only [encA,List.getElem?_map,Option.map_eq_some_iff] at he
    obtain ⟨y,h1,h2⟩:=he
    exact ⟨y,h1,h2.symm⟩
   simp
   refine ST.entry (n:=H.next+1) (m:=H.next) (seen:=seen ++ [i]) (es:=es) (i:=i) (e:=e) (by simp) (by rw [GH.a0n]) (by rw [GH.a0f,if_neg (by omega)];exact om) (by simp) rfl hkeys (by simp) he ?_
   rw [hk]
   obtain ⟨H3,hH3⟩:∃ H3,H2.set (H.next+1) (GO.iter H.next es.length (seen ++ [i]) es.length)=H3:=⟨_,rfl⟩
   have hv3:=hv.set (k:=H.next+1) (by rw [GH.a0a];omega) (.iter H.next es.length (seen ++ [i]) es.length)
   have hset:∀ a b:GO,((H.add (.map es)).add a).set (H.next+1) b=(H.add (.map es)).add b:=fun a b=>by rw [<- b1];exact GH.a1v
   rw [hH3,hset] at hv3
   have hwk:b7d M (seen ++ [i])=b7d M seen ++ (if y.n ≠ 0 then [y] else []):=by
    have hg:M.getD i default=y:=by simp [List.getD,hy]
    simp only [b7d,List.map_append,List.map_cons,List.map_nil,List.filter_append,hg,List.filter_cons,List.filter_nil]
    by_cases q:y.n=0 <;> simp [q]
   have hsn:(seen ++ [i]).Nodup:=by
    rw [List.nodup_append]
    exact ⟨s1,by simp,fun a ha b hb=>by simp at hb;subst hb;intro q;subst q;exact hi ha⟩
   have hsl:seen.length<=es.length:=a3f _ _ s1 s2
   have hwl:(b7d M seen).length<=1000000:=Nat.le_trans (List.length_filter_le _ _) (by simp;omega)
   have hmea:unm es.length (fun j=>decide (j ∈ seen ++ [i])) < unm es.length (fun j=>decide (j ∈ seen)):=by
    have:=b2n (n:=es.length) (M:=fun j=>decide (j ∈ seen)) hi' (by simpa using hi)
    have e2:a4q (fun j=>decide (j ∈ seen)) i=fun j=>decide (j ∈ seen ++ [i]):=by
     funext j;simp only [a4q];by_cases q:j=i <;> simp [q]
    rw [e2] at this;exact this
   have hall:∀ j ∈ seen ++ [i],j < es.length:=fun j hj=>by
    rcases List.mem_append.1 hj with q | q
    ·exact s2 j q
    ·simp at q;subst q;exact hi'
   simp [b4x,kR,hH3]
   refine ⟨fun q=>⟨hv.plain.unP,?_⟩,fun q=>?_⟩
   ·refine APK.appV (ys:=[a0i y]) tyE30 rfl tyE86 (by simp) (x:=x) (by simp [hv.plain.all]) hv3 (by simp [a9g,rowsOf,a0i]) (by simp) (a1b _) (fun r hr=>by simp only [List.mem_singleton] at hr;subst hr;rfl) (by simp;omega) (by simp) fun x' H5 h5 _ _=>?_
    simp [h5.plain.all]
    refine NX.go (seen ++ [i],x',H5) hmea ⟨hsn,hall,?_⟩ (by simp [h5.only])
    rw [hwk,if_pos q,List.map_append];exact h5
   ·refine NX.go (seen ++ [i],x,H3) hmea ⟨hsn,hall,?_⟩ (by simp [hv3.only])
    rw [hwk,if_neg (by simpa using q),List.append_nil];exact hv3
  ·simp
   have hwl:(b7d M seen).length<=1000000:=Nat.le_trans (List.length_filter_le _ _) (by simp;have:=a3f _ _ s1 s2;omega)
   have hsb:=e4c (b7d M seen) (by omega) x _ H2 hv
   refine AW.seq cc ?_
   simp [hv.plain.all]
   refine ⟨hv.nb,EC.of hsb (fun v H3 hR=>?_) (fun v H3 hR=>by obtain ⟨⟨_,e⟩,_⟩:=hR;cases e)⟩
   obtain ⟨_,n3,l',hp,hso,hv3⟩:=hR
   have hbag:l'=bagM L:=by
    rw [hel] at hend s2
    rw [<- hM] at hp s2 hend
    exact d3y s1 s2 hend hp hso
   subst hbag
   have n2:=hv3.nx
   rw [GH.a0a,GH.a0a] at n2
   have o3:∀ m,m < H.next->H3.obj m=H.obj m:=fun m hm=>by rw [hv3.ob m (by rw [GH.a0a,GH.a0a];omega),GH.a0b,if_neg (by rw [GH.a0a];omega),GH.a0b,if_neg (by omega)]
   simp [hv.plain.all]
   rcases hv3.is with ⟨q1,rfl⟩ | ⟨n,g,q1,q2,rfl,q4,q5⟩
   ·refine AW.ev cc ?_
    simp
    exact fun _=>⟨a0m (by omega) o3 hw.none,by simpa using q1⟩
   ·rw [GH.a0a,GH.a0a] at q1
    refine AW.thaw (n:=n) (g:=g) (sz:=4) (e:=86) (ex:=false) ((bagM L).map a0i) q4 rfl (a1b _) ?_
    refine AW.ev cc ?_
    simp
    exact fun _=>⟨a0m (by simp only;omega) (fun m hm=>a9e hw (by omega) o3 hm) hw.none,List.take_of_length_le (by simp)⟩
end Go.Aft
end
section
set_option maxRecDepth 20000
namespace Go.Aft
open Go.Proofs.Tryz
def itOk (x:Item):Prop:=(-1000000<=x.n/\x.n<=1000000)/\a1z x.rec_.val
theorem d5u {x:Item} (h:itOk x):-1000000000000000<=x.n * x.rec_.val/\x.n * x.rec_.val<=1000000000000000:=by
 obtain ⟨h1,h2⟩:=h
 unfold a1z at h2
 have h3:(x.n * x.rec_.val).natAbs<=1000000 * 1000000000:=by
  rw [Int.natAbs_mul];exact Nat.mul_le_mul (by omega) (by omega)
 omega
theorem c3b (f:Int):∀ (l:List Item) (st:Nat × Int),(∀ x ∈ l,itOk x)->-1000000000000000 * (st.1+1:Int)<=st.2/\st.2<=1000000000000000 * (st.1+1:Int)->(l.foldl (a2p f) st).1=st.1+l.length /\
  -1000000000000000 * (st.1+l.length+1:Int)<=(l.foldl (a2p f) st).2/\(l.foldl (a2p f) st).2<=1000000000000000 * (st.1+l.length+1:Int)
 | [],st,_,h=>by simpa using h
 | x :: l,st,hl,h=>by
  rw [List.foldl_cons]
  have hx:=hl x (by simp)
  have hm:=d5u hx
  obtain ⟨h1,h2⟩:=hx
  unfold a1z at h2
  have ih:=c3b f l (a2p f st x) (fun y hy=>hl y (List.mem_cons_of_mem _ hy)) (by
   simp only [a2p]
   split
   ·push_cast;omega
   ·split
    ·push_cast;omega
    ·split
     ·split <;> push_cast <;> omega
     ·split
      ·split <;> push_cast <;> omega
      ·push_cast;omega)
  have e:(a2p f st x).1=st.1+1:=rfl
  rw [e] at ih
  simp only [List.length_cons]
  push_cast at ih |-
  exact ⟨by omega,by omega,by omega⟩
theorem c8j (f:Int) (l:List Item) (hl:l.length<=1000) (hb:∀ x ∈ l,itOk x):AFun prog 59 [lvI f,sl (l.map a0i)] (lvI (b3l f l)):=by
 have cc:=a0g (p:=kds [] [] [])
 refine AFun.body (a0g (p:=kds [] [] [])) func59 rfl call59 (by rw [ntmps59];simp) rfl fun hf H=>?_
 simp [ntmps59,results59] at hf |-
 refine AW.a0w cc (fun i:Nat=>⟨[(0,lvI f),(5,lvI ((l.take i).foldl (a2p f) (0,0)).2),(9,.d (.sl (l.map a0i))),(10,lvI l.length),(11,lvI i)],[],H⟩) (fun i=>l.length - i) (fun i=>i<=l.length) 0 ⟨Nat.zero_le _,by simp⟩ fun i hi=>?_
 simp
 refine ⟨fun h=>?_,fun h=>?_⟩
 ·obtain ⟨x,hxe⟩:∃ x,l[i]=x:=⟨_,rfl⟩
  have hx:=hb l[i] (List.getElem_mem h)
  rw [hxe] at hx
  have hbd:=c3b f (l.take i) (0,0) (fun y hy=>hb y (List.mem_of_mem_take hy)) (by simp)
  have hst:(l.take (i+1)).foldl (a2p f) (0,0)=a2p f ((l.take i).foldl (a2p f) (0,0)) x:=by
   rw [<- a0p h,hxe,List.foldl_append];rfl
  obtain ⟨st,hs⟩:∃ st,(l.take i).foldl (a2p f) (0,0)=st:=⟨_,rfl⟩
  rw [hs] at hbd hst
  have hlt:(l.take i).length=i:=by simp;omega
  rw [hlt] at hbd
  have hm:=d5u hx
  obtain ⟨h1,h2⟩:=hx
  unfold a1z at h2
  have w1:IntKind.wrap .i64 (st.2+x.n)=st.2+x.n:=by rw [wrap64] <;> omega
  have w2:IntKind.wrap .i64 (x.n * x.rec_.val)=x.n * x.rec_.val:=by rw [wrap64] <;> omega
  have w3:IntKind.wrap .i64 (st.2+x.n * x.rec_.val)=st.2+x.n * x.rec_.val:=by rw [wrap64] <;> omega
  have hst1:st.1=i:=by have:=hbd.1;omega
  have hgo:∀ v:Int,v=(a2p f st x).2->v=((l.take (i+1)).foldl (a2p f) (0,0)).2:=fun v q=>by rw [hst,q]
  simp [h,List.getElem?_eq_getElem h,hxe,a0i,hs,w1,w2,w3,wrap_succ h (show l.length<=9223372036854775807 by omega)]
  have w4:=wrap_succ h (show l.length<=9223372036854775807 by omega)
  refine ⟨fun q=>?_,fun n1=>⟨fun q=>?_,fun n2=>⟨fun q=>⟨fun r=>?_,fun r1 r2=>?_⟩,fun n3=>⟨fun q=>⟨fun r=>?_,fun r1 r2=>?_⟩,fun n4=>?_⟩⟩⟩⟩
  ·have hv:(a2p f st x).2=st.2+x.n:=by simp [a2p,q]
   exact NX.go (i+1) (by omega) h (by simp [hst,hv,w4])
  ·have hv:(a2p f st x).2=st.2+x.n * x.rec_.val:=by simp [a2p,n1,q]
   exact NX.go (i+1) (by omega) h (by simp [hst,hv,w4])
  ·have hv:(a2p f st x).2=x.rec_.val:=by simp only [a2p];rw [if_neg n1,if_neg n2,if_pos q,if_pos (by rw [hst1];exact r)]
   exact NX.go (i+1) (by omega) h (by simp [hst,hv,w4])
  ·have hv:(a2p f st x).2=st.2:=by simp only [a2p];rw [if_neg n1,if_neg n2,if_pos q,if_neg (by rw [hst1];omega)]
   exact NX.go (i+1) (by omega) h (by simp [hst,hv,w4])
  ·have hv:(a2p f st x).2=x.rec_.val:=by simp only [a2p];rw [if_neg n1,if_neg n2,if_neg n3,if_pos q,if_pos (by rw [hst1];exact r)]
   exact NX.go (i+1) (by omega) h (by simp [hst,hv,w4])
  ·have hv:(a2p f st x).2=st.2:=by simp only [a2p];rw [if_neg n1,if_neg n2,if_neg n3,if_pos q,if_neg (by rw [hst1];omega)]
   exact NX.go (i+1) (by omega) h (by simp [hst,hv,w4])
  ·have hv:(a2p f st x).2=st.2:=by simp only [a2p];rw [if_neg n1,if_neg n2,if_neg n3,if_neg n4]
   exact NX.go (i+1) (by omega) h (by simp [hst,hv,w4])
 ·have e:i=l.length:=by omega
  subst e
  rw [List.take_length]
  refine EC.afun (a3x _) ?_
  simp [b3l]
theorem c9g (low:Int):∀ (l:List Item) (i:Nat),i<=l.length->(∀ (j:Nat) (h:j < l.length),j < i->l[j].rec_.at_ < low)->(∀ h:i < l.length,low<=l[i].rec_.at_)->b2i low l=l.drop i
 | [],i,_,_,_=>by simp [b2i]
 | x :: l,0,_,_,h=>by
  have:=h (by simp)
  simp only [b2i,List.drop_zero]
  rw [List.dropWhile_cons,if_neg (by simpa using this)]
 | x :: l,i+1,hi,h1,h2=>by
  have h0:=h1 0 (by simp) (by omega)
  simp only [b2i] at *
  rw [List.dropWhile_cons,if_pos (by simpa using h0),List.drop_succ_cons]
  exact c9g low l i (by simpa using hi) (fun j h hj=>h1 (j+1) (Nat.succ_lt_succ h) (by omega)) (fun h=>h2 (Nat.succ_lt_succ h))
theorem upto_take (high:Int):∀ (l:List Item) (i:Nat),i<=l.length->(∀ (j:Nat) (h:j < l.length),j < i->l[j].rec_.at_<=high)->(∀ h:i < l.length,high < l[i].rec_.at_)->l.takeWhile (fun x=>decide (x.rec_.at_<=high))=l.take i
 | [],i,_,_,_=>by simp
 | x :: l,0,_,_,h=>by
  have:=h (by simp)
  rw [List.takeWhile_cons,if_neg (by simpa using this),List.take_zero]
 | x :: l,i+1,hi,h1,h2=>by
  have h0:=h1 0 (by simp) (by omega)
  rw [List.takeWhile_cons,if_pos (by simpa using h0),List.take_succ_cons]
  rw [upto_take high l i (by simpa using hi) (fun j h hj=>h1 (j+1) (Nat.succ_lt_succ h) (by omega)) (fun h=>h2 (Nat.succ_lt_succ h))]
theorem a8g (l:List Item) (low high:Int):AFun prog 233 [sl (l.map a0i),lvI low,lvI high] (sl ((a1a low high l).map a0i)):=by
 have cc:=a0g (p:=kds [] [] [])
 refine AFun.body (a0g (p:=kds [] [] [])) func233 rfl call233 (by rw [ntmps233];simp) rfl fun hf H=>?_
 simp [ntmps233,results233] at hf |-
 refine AW.a0w cc (fun i:Nat=>⟨[(0,.d (.sl (l.map a0i))),(1,lvI low),(2,lvI high),(7,lvI i)],[],H⟩) (fun i=>l.length - i) (fun i=>i<=l.length/\∀ (j:Nat) (h:j < l.length),j < i->l[j].rec_.at_ < low) 0 ⟨⟨Nat.zero_le _,fun j h hj=>by omega⟩,by simp⟩ fun i hi=>?_
 obtain ⟨hi,hlow⟩:=hi
 have hd:(default:DV)=.k undef:=rfl
 rcases Decidable.em (i < l.length) with h | h
 case' inl =>
  simp [h,List.getElem?_eq_getElem h,a0i]
  refine ⟨fun q=>NX.go (i+1) (by omega) ⟨h,fun j hj hji=>?_⟩ (by simp [wrap_succ h (show l.length<=9223372036854775807 by omega),a0i]),fun q=>?_⟩
  ·by_cases e:j=i
   ·subst e;exact q
   ·exact hlow j hj (by omega)
  have hup:∀ h:i < l.length,low<=l[i].rec_.at_:=fun _=>q
 case' inr =>
  simp [h,hd,undef]
  have hup:∀ h:i < l.length,low<=l[i].rec_.at_:=fun h'=>absurd h' h
 all_goals
  have hfr:=c9g low l i hi hlow hup
  refine AW.a0w cc (fun k:Nat=>⟨[(0,.d (.sl (l.map a0i))),(2,lvI high),(7,lvI i),(8,lvI k)],[],H⟩) (fun k=>l.length - k) (fun k=>k<=l.length/\i<=k/\∀ (j:Nat) (h:j < l.length),i<=j->j < k->l[j].rec_.at_<=high) i ⟨⟨hi,Nat.le_refl _,fun j h h1 h2=>by omega⟩,by simp [a0i]⟩ fun k hk=>?_
  obtain ⟨hk,hik,hin⟩:=hk
  simp
  rcases Decidable.em (k < l.length) with h2 | h2
  case' inl =>
   simp [h2,List.getElem?_eq_getElem h2,a0i]
   refine ⟨fun q=>NX.go (k+1) (by omega) ⟨h2,by omega,fun j hj h3 h4=>?_⟩ (by simp [wrap_succ h2 (show l.length<=9223372036854775807 by omega),a0i]),fun q=>?_⟩
   ·by_cases e:j=k
    ·subst e;exact q
    ·exact hin j hj h3 (by omega)
   have hup2:∀ h:k < l.length,high < l[k].rec_.at_:=fun _=>q
  case' inr =>
   simp [h2,hd,undef]
   have hup2:∀ h:k < l.length,high < l[k].rec_.at_:=fun h'=>absurd h' h2
  all_goals
   have hut:=upto_take high (l.drop i) (k - i) (by simp;omega) (fun j hj hjk=>by
    rw [List.getElem_drop];exact hin (i+j) (by simp at hj;omega) (by omega) (by omega)) (fun hj=>by
    rw [List.getElem_drop]
    have:=hup2 (by simp at hj;omega)
    simpa [show i+(k - i)=k by omega] using this)
   have hres:(List.take k (l.map a0i)).drop i=(a1a low high l).map a0i:=by
    rw [a1a,hfr,hut,<- List.map_take,<- List.map_drop,List.drop_take]
   exact ⟨⟨hik,hk⟩,hres⟩
end Go.Aft
end
