import Derived.Test.YthinedikejlgmaaGreatA35
import Derived.Test.YthinedikejlgmaaGreatA36
import Derived.Test.YthinedikejlgmaaGreatA28
import Derived.Test.YthinedikejlgmaaGreatA37
import Derived.Test.YthinedikejlgmaaGreatA29
set_option linter.all false
section
set_option maxRecDepth 20000
namespace Go.Aft
open Go.Proofs.Tryz
open Go.Sort (swp insInner insOuter insertionSort SWO PermIn SortedIn)
theorem f0b (a b:Int):AFun prog 244 [lvI a,lvI b] (.d (.k (.bool (decide (a < b))))):=by
 refine AFun.body cx0_ok func244 rfl call244 (by rw [ntmps244];simp) rfl fun _ H=>?_
 simp [ntmps244,results244]
 refine EC.afun (b9y a) ?_
 simp
def ltI (x y:Int):Bool:=decide (x < y)
theorem c5h (d:Array Int) (hsz:d.size<=1000) (n:Nat) (H:GH) (g:Nat) (hg:H.obj n=some (.vec 3 g 1 (d.toList.map lvI) false)) :
  a0j prog 238 [.vs n g 1 0 d.size,lvI 0,lvI d.size] H fun ce H'=>(∃ v,ce=.ret v)/\H'=H.set n (.vec 3 g 1 ((insertionSort ltI d 0 d.size).toList.map lvI) false):=by
 have cc:=a0g (p:=kds [] [] [])
 refine a0j.a1j (a0g (p:=kds [] [] [])) func238 rfl call238 (by rw [ntmps238];simp) rfl fun hf hw=>?_
 have ln:=hw.lt hg
 simp [ntmps238,results238]
 refine AW.a0w cc (fun s:Nat × Array Int=>⟨[(0,.vs n g 1 0 d.size),(1,lvI 0),(2,lvI d.size),(6,lvI s.1)],[],H.set n (.vec 3 g 1 (s.2.toList.map lvI) false)⟩) (fun s=>d.size - s.1)
  (fun s=>1<=s.1/\(s.1<=d.size \/ s.1=1)/\s.2.size=d.size/\insertionSort ltI d 0 d.size=insOuter ltI 0 d.size s.1 s.2) (1,d) ⟨⟨by simp,by simp,rfl,rfl⟩,by simp [GH.a6g hg];rfl⟩ ?_
 rintro ⟨i,d1⟩ ⟨i1,i2,i3,i5⟩
 simp only at i1 i2 i3 i5
 simp
 refine ⟨fun h=>?_,fun h=>?_⟩
 ·refine AW.a0w cc (fun s:Nat × Array Int=>⟨[(0,.vs n g 1 0 d.size),(1,lvI 0),(2,lvI d.size),(6,lvI i),(7,lvI s.1)],[],H.set n (.vec 3 g 1 (s.2.toList.map lvI) false)⟩) (fun s=>s.1)
   (fun s=>s.1<=i/\s.2.size=d.size/\insInner ltI 0 i d1=insInner ltI 0 s.1 s.2) (i,d1) ⟨⟨Nat.le_refl _,i3,rfl⟩,by simp⟩ ?_
  rintro ⟨j,d2⟩ ⟨j2,j3,j5⟩
  simp only at j2 j3 j5
  have ob:∀ o,(H.set n o).obj n=some o:=fun o=>GH.a0n
  simp
  refine AW.draw cc [(13,.n)] (.q 0<|.q 1<|.q 2<|.q 3<|.q 4<|.q 5<|.q 6<|.q 8<|.q 9<|.q 10<|.q 11<|.q 7<|.q 12<|.q 13<|.q 14<|.done) (by kernel_rfl) ?_
  have wj:IntKind.wrap .i64 ((j:Int) - 1)=(j:Int) - 1:=by rw [wrap64] <;> omega
  have tj:((j:Int) - 1).toNat=j - 1:=by omega
  have g1:d2.toList[j]?=some d2[j]! := by rw [getElem!_pos d2 j (by omega)];simp [show j < d2.size by omega]
  have g2:d2.toList[j - 1]?=some d2[j - 1]! := by rw [getElem!_pos d2 (j - 1) (by omega)];simp [show j - 1 < d2.size by omega]
  have hx:=f0b d2[j]! d2[j - 1]!
  simp at g1 g2 hx
  simp [ob,wj,tj,g1,g2]
  refine ⟨fun q=>⟨q,by omega⟩,fun q=>⟨q,by omega,by omega⟩,FCg.afun (fun _=>hx) ?_⟩
  simp
  refine ⟨fun q1 q2=>?_,fun q=>?_⟩
  ·refine AW.draw cc [] (.q 0<|.q 1<|.q 2<|.q 3<|.q 4<|.q 5<|.q 6<|.q 7<|.q 8<|.q 10<|.q 11<|.q 12<|.q 9<|.q 13<|.q 14<|.f<|.one 15<|.q 16<|.f<|.one 17<|.done) (by kernel_rfl) ?_
   have hset:=fun (M:List LV) (k:Nat) (w:LV) (hk:k < M.length)=>(List.set_eq_take_append_cons_drop (l:=M) (i:=k) (a:=w)).trans (if_pos hk)
   obtain ⟨L,hL⟩:∃ L,d2.toList.map lvI=L:=⟨_,rfl⟩
   have hLl:L.length=d2.size:=by rw [<- hL];simp
   have s1:=(hset L j (lvI d2[j - 1]!) (by omega)).symm
   have s2:=(hset (L.set j (lvI d2[j - 1]!)) (j - 1) (lvI d2[j]!) (by simp;omega)).symm
   have c1:j+1<=d2.size:=by omega
   have c2:j - 1+1<=d2.size:=by omega
   have g1:L[j]?=some (lvI d2[j]!):=by rw [<- hL];simp [g1]
   have g2:L[j - 1]?=some (lvI d2[j - 1]!):=by rw [<- hL];simp [g2]
   have hsw:(L.set j (lvI d2[j - 1]!)).set (j - 1) (lvI d2[j]!)=(swp d2 j (j - 1)).toList.map lvI:=by
    rw [<- hL,swp];simp
   rw [hL]
   simp only [lvI_eq] at s1 s2 hsw g1 g2
   simp [ob,wj,tj,g1,g2,c1,c2,hLl,s1,s2,GH.a2n,hsw]
   have w3:((j - 1:Nat):Int)=(j:Int) - 1:=by omega
   exact ⟨⟨by omega,by omega⟩,by omega,⟨by omega,by omega⟩,NX.go (j - 1,swp d2 j (j - 1)) (by simp only;omega) ⟨by simp only;omega,by simp only;rw [swp_size];exact j3,by rw [j5];exact insInner_go ⟨q1,by simpa [ltI] using q2⟩⟩ (by simp [wj,w3])⟩
  ·have w2:IntKind.wrap .i64 ((i:Int)+1)=(i:Int)+1:=by rw [wrap64] <;> omega
   have hst:insInner ltI 0 j d2=d2:=insInner_stop fun q'=>by
    have h1:=q q'.1;have h2:=q'.2
    simp only [ltI,decide_eq_true_eq] at h2;omega
   refine NX.go (i+1,d2) (by simp only;omega) ⟨by simp only;omega,by simp only;omega,j3,?_⟩ (by simp [w2])
   rw [i5,insOuter,if_pos h,j5,hst]
 ·have e:insOuter ltI 0 d.size i d1=d1:=by rw [insOuter,if_neg (by omega)]
  rw [i5,e]
  exact fun hz=>hz.drop (by rw [GH.a0l];exact Nat.le_refl _)
theorem d2v:SWO ltI where
 irrefl x:=by simp [ltI]
 trans x y z h1 h2:=by simp only [ltI,decide_eq_true_eq] at *;omega
 ntrans x y z h1 h2:=by simp only [ltI,decide_eq_false_iff_not] at *;omega
theorem d6l (d:Array Int) (hsz:d.size<=12) (n:Nat) (H:GH) (g:Nat) (hg:H.obj n=some (.vec 3 g 1 (d.toList.map lvI) false)) :
  a0j prog 170 [.vs n g 1 0 d.size] H fun ce H'=>(∃ v,ce=.ret v)/\H'=H.set n (.vec 3 g 1 ((insertionSort ltI d 0 d.size).toList.map lvI) false):=by
 have cc:=a0g (p:=kds [] [] [])
 have hpdq:∀ k:Int,a0j prog 214 [.vs n g 1 0 d.size,lvI 0,lvI d.size,lvI k] H fun ce H'=>(∃ v,ce=.ret v)/\H'=H.set n (.vec 3 g 1 ((insertionSort ltI d 0 d.size).toList.map lvI) false):=fun k=>by
  refine a0j.a1j (a0g (p:=kds [] [] [])) func214 rfl call214 (by rw [ntmps214];simp) rfl fun hf hw=>?_
  have ln:=hw.lt hg
  have hin:=c5h d (by omega) n H g hg
  have w1:IntKind.wrap .i64 (d.size:Int)=d.size:=by rw [wrap64] <;> omega
  have c1:(d.size:Int)<=12:=by omega
  simp at hin
  simp [ntmps214,results214]
  refine AW.a0w cc (fun s:Nat=>⟨[(0,.vs n g 1 0 d.size),(1,lvI 0),(2,lvI d.size),(3,lvI k)],[],H⟩) (fun s=>s) (fun s=>True) 0 ⟨trivial,by simp⟩ ?_
  intro i _
  simp [w1,c1]
  refine ⟨ln,EC.of hin (fun v H2 hR=>?_) (fun v H2 hR=>by obtain ⟨⟨_,e⟩,_⟩:=hR;cases e)⟩
  obtain ⟨_,hE⟩:=hR
  rw [hE]
  simp
  exact fun hz=>hz.drop (by rw [GH.a0l];exact Nat.le_refl _)
 refine a0j.a1j (a0g (p:=kds [] [] [])) func170 rfl call170 (by rw [ntmps170];simp) rfl fun hf hw=>?_
 have ln:=hw.lt hg
 have w1:IntKind.wrap .u64 (d.size:Int)=(d.size:Nat):=by simp [IntKind.wrap,IntKind.bits,IntKind.signed];omega
 simp [ntmps170,results170,w1]
 refine EC.of (bits_Len d.size (by omega) H) (fun v H2 hR=>?_) (fun v H2 hR=>by obtain ⟨⟨_,e⟩,_⟩:=hR;cases e)
 obtain ⟨⟨k,q⟩,rfl⟩:=hR
 cases q
 have hp:=hpdq k
 simp at hp
 simp
 refine ⟨ln,EC.of hp (fun v H3 hR=>?_) (fun v H3 hR=>by obtain ⟨⟨_,e⟩,_⟩:=hR;cases e)⟩
 obtain ⟨_,hE⟩:=hR
 rw [hE]
 simp
 exact fun hz=>hz.drop (by rw [GH.a0l];exact Nat.le_refl _)
def b7j (l:List Int):List Int:=(insertionSort ltI l.toArray 0 l.length).toList
theorem a2r (l:List Int):(b7j l).Perm l:=by
 have h:=(Go.Sort.insertionSort_holds d2v l.toArray 0 l.toArray.size (Nat.zero_le _) (Nat.le_refl _)).1
 have h3:=h.2.2
 have e1:=h.1
 simp only [List.size_toArray] at h3 e1
 have hx:(l.toArray.extract 0 l.length).toList=l:=by simp
 have hy:((insertionSort ltI l.toArray 0 l.length).extract 0 l.length).toList=b7j l:=by
  rw [b7j]
  generalize insertionSort ltI l.toArray 0 l.length=D at e1
  rw [<- e1];simp
 rw [hx,hy] at h3
 exact h3
theorem a9h (l:List Int) (hn:l.Nodup):(b7j l).Pairwise (· < ·):=by
 have h2:=(Go.Sort.insertionSort_holds d2v l.toArray 0 l.toArray.size (Nat.zero_le _) (Nat.le_refl _)).2
 have hp:(b7j l).Pairwise (· ≠ ·):=(a2r l).symm.pairwise hn fun {a b} q e=>q e.symm
 rw [List.pairwise_iff_getElem] at hp |-
 intro i j hi hj hij
 have hl:=(a2r l).length_eq
 have h3:=h2 i j (Nat.zero_le _) hij (by simp;omega)
 have hsz:(insertionSort ltI l.toArray 0 l.length).size=l.length:=by
  have:=(Go.Sort.insertionSort_holds d2v l.toArray 0 l.toArray.size (Nat.zero_le _) (Nat.le_refl _)).1.1
  simpa using this
 simp only [List.size_toArray] at h3
 rw [getElem!_pos _ i (by omega),getElem!_pos _ j (by omega)] at h3
 simp only [ltI,decide_eq_false_iff_not] at h3
 have g:∀ k (hk:k < (b7j l).length),(b7j l)[k]=(insertionSort ltI l.toArray 0 l.length)[k]'(by omega):=fun k hk=>by simp [b7j]
 rw [<- g i hi,<- g j hj] at h3
 have:=hp i j hi hj hij
 omega
def natI (l:List Nat):List Int:=l.map fun k:Nat=>(k:Int)
theorem c7b {ks:List Nat} (hn:ks.Nodup) {n:Nat} {M:Nat->Bool} (h:∀ k,k ∈ ks ↔ k < n/\M k=true):b7j (natI ks)=natI ((List.range n).filter M):=by
 have h1:(natI ks).Nodup:=by
  unfold natI
  rw [List.Nodup,List.pairwise_map]
  exact hn.imp fun {a b} q e=>q (by omega)
 have h2:(natI ((List.range n).filter M)).Pairwise (· < ·):=by
  unfold natI
  rw [List.pairwise_map]
  exact (List.pairwise_lt_range.filter M).imp fun {a b} q=>by omega
 refine a4b (lt:=fun a b:Int=>a < b) (fun a=>by omega) (fun _ _ _ p q=>by omega) (a9h _ h1) h2 fun x=>?_
 rw [(a2r _).mem_iff]
 simp only [natI,List.mem_map,List.mem_filter,List.mem_range,h]
theorem c8v (H:GH):a0j prog 170 [.d (.k (.slice none 0 0))] H fun ce H'=>(∃ v,ce=.ret v)/\H'=H:=by
 have cc:=a0g (p:=kds [] [] [])
 have hin:∀ H,a0j prog 238 [.d (.k (.slice none 0 0)),lvI 0,lvI 0] H fun ce H'=>(∃ v,ce=.ret v)/\H'=H:=fun H=>by
  refine a0j.a1j (a0g (p:=kds [] [] [])) func238 rfl call238 (by rw [ntmps238];simp) rfl fun hf hw=>?_
  have w1:IntKind.wrap .i64 1=1:=rfl
  simp [ntmps238,results238]
  refine AW.a0w cc (fun s:Nat=>⟨[(0,.d (.k (.slice none 0 0))),(1,lvI 0),(2,lvI 0),(6,lvI 1)],[],H⟩) (fun s=>s) (fun s=>True) 0 ⟨trivial,by simp [w1]⟩ ?_
  intro i _
  simp
  exact fun hz=>hz.drop (Nat.le_refl _)
 have hpdq:∀ (k:Int) (H:GH),a0j prog 214 [.d (.k (.slice none 0 0)),lvI 0,lvI 0,lvI k] H fun ce H'=>(∃ v,ce=.ret v)/\H'=H:=fun k H=>by
  refine a0j.a1j (a0g (p:=kds [] [] [])) func214 rfl call214 (by rw [ntmps214];simp) rfl fun hf hw=>?_
  have w1:IntKind.wrap .i64 0=0:=rfl
  have hi:=hin H
  simp at hi
  simp [ntmps214,results214]
  refine AW.a0w cc (fun s:Nat=>⟨[(0,.d (.k (.slice none 0 0))),(1,lvI 0),(2,lvI 0),(3,lvI k)],[],H⟩) (fun s=>s) (fun s=>True) 0 ⟨trivial,by simp⟩ ?_
  intro i _
  simp [w1]
  refine EC.of hi (fun v H2 hR=>?_) (fun v H2 hR=>by obtain ⟨⟨_,e⟩,_⟩:=hR;cases e)
  obtain ⟨_,rfl⟩:=hR
  simp
  exact fun hz=>hz.drop (Nat.le_refl _)
 refine a0j.a1j (a0g (p:=kds [] [] [])) func170 rfl call170 (by rw [ntmps170];simp) rfl fun hf hw=>?_
 have w1:IntKind.wrap .u64 0=((0:Nat):Int):=rfl
 simp [ntmps170,results170,w1]
 refine EC.of (bits_Len 0 (by omega) H) (fun v H2 hR=>?_) (fun v H2 hR=>by obtain ⟨⟨_,e⟩,_⟩:=hR;cases e)
 obtain ⟨⟨k,q⟩,rfl⟩:=hR
 cases q
 have hp:=hpdq k H2
 simp at hp
 simp
 refine EC.of hp (fun v H3 hR=>?_) (fun v H3 hR=>by obtain ⟨⟨_,e⟩,_⟩:=hR;cases e)
 obtain ⟨_,rfl⟩:=hR
 simp
 exact fun hz=>hz.drop (Nat.le_refl _)
end Go.Aft
end
section
set_option maxRecDepth 20000
namespace Go.Aft
open Go.Proofs.Tryz
open Go.Sort (insertionSort)
theorem a7p (l:List Int):a1e (l.map rI)=l.map lvI:=by
 induction l with
 | nil=>rfl
 | cons a l ih=>simp only [List.map_cons,a1e,List.flatten_cons,List.map_append] at ih |-;rw [ih];rfl
def a6q (ks:List Nat) (seen:List Nat):List Int:=seen.map fun i=>((ks.getD i 0:Nat):Int)
theorem c1m {ks seen:List Nat} (hn:seen.Nodup) (hb:∀ i ∈ seen,i < ks.length) (ha:∀ i,i < ks.length->i ∈ seen):(a6q ks seen).Perm (natI ks):=by
 have h1:seen.Perm (List.range ks.length):=by
  rw [List.perm_ext_iff_of_nodup hn List.nodup_range]
  exact fun i=>⟨fun q=>List.mem_range.2 (hb i q),fun q=>ha i (List.mem_range.1 q)⟩
 have h2:(List.range ks.length).map (fun i=>((ks.getD i 0:Nat):Int))=natI ks:=by
  refine List.ext_getElem (by simp [natI]) fun i h1 h2=>?_
  simp only [List.length_map,List.length_range] at h1
  simp [natI,List.getD,List.getElem?_eq_getElem h1]
 have:=h1.map fun i=>((ks.getD i 0:Nat):Int)
 rw [h2] at this
 exact this
theorem c2i (k:Nat):∀ (es:List (Value × LV)) (ks:List Nat),es.map (·.1)=ks.map (fun k:Nat=>Value.int .i64 k)->((a1c (.int .i64 k) es).isSome=true ↔ k ∈ ks)
 | [],[],_=>by simp [a1c]
 | [],j :: ks,h=>by simp at h
 | e :: es,[],h=>by simp at h
 | (a,b) :: es,j :: ks,h=>by
  simp only [List.map_cons,List.cons.injEq] at h
  obtain ⟨rfl,h⟩:=h
  have ih:=c2i k es ks h
  simp only [a1c,a4f]
  by_cases e:(k:Int)=j
  ·have e':k=j:=by omega
   subst e'
   simp
  ·have e':¬ k=j:=by omega
   simp only [e,decide_false,Bool.false_eq_true,if_false,ih,List.mem_cons,e',false_or]
theorem MapB.mem {es:List (Value × LV)} {M:Nat->Bool} (h:MapB es M) {ks:List Nat} (hk:es.map (·.1)=ks.map fun k:Nat=>Value.int .i64 k) (k:Nat):k ∈ ks ↔ M k=true:=by
 rw [<- c2i k es ks hk,h.get k]
 split <;> simp_all
theorem d5j (l:List Int):∀ r ∈ l.map rI,r.length=1:=fun r hr=>by obtain ⟨_,_,rfl⟩:=List.mem_map.1 hr;rfl
theorem b1x {m n:Nat} (hn:n<=12) {es:List (Value × LV)} {M:Nat->Bool} {H:GH} (hM:MapB es M) (hb:∀ k,M k=true->k < n) (hm:H.obj m=some (.map es)) :
  a0j prog 101 [.gm m] H fun ce H'=>ce=.ret (sl ((natI ((List.range n).filter M)).map rI))/\H'=H:=by
 have cc:=a0g (p:=kds [] [] [14])
 refine a0j.a3a (a0g (p:=kds [] [] [14])) func101 rfl call101 (by rw [ntmps101];simp) rfl fun hf hw=>?_
 have hmn:=hw.lt hm
 obtain ⟨ks,hkn,hke⟩:=hM.nat
 have hkm:=hM.mem hke
 have hel:es.length=ks.length:=by have:=congrArg List.length hke;simpa using this
 have hkl:ks.length<=n:=a3f n ks hkn fun i hi=>hb i ((hkm i).1 hi)
 have hkeys:es.all (fun e=>b4w e.1)=true:=List.all_eq_true.2 fun e he=>by
  have:e.1 ∈ es.map (·.1):=List.mem_map.2 ⟨e,he,rfl⟩
  rw [hke] at this
  obtain ⟨k,_,q⟩:=List.mem_map.1 this
  rw [<- q];rfl
 have hget:∀ (i:Nat) (e:Value × LV),es[i]?=some e->e.1=Value.int .i64 (ks.getD i 0:Nat):=fun i e he=>by
  have h1:(es.map (·.1))[i]?=some e.1:=by simp [he]
  rw [hke] at h1
  simp only [List.getElem?_map,Option.map_eq_some_iff] at h1
  obtain ⟨k,h2,h3⟩:=h1
  rw [<- h3];simp [List.getD,h2]
 simp [ntmps101,results101]
 refine AW.seq cc ?_
 simp
 refine AW.seq cc ?_
 simp
 refine AW.seq cc ?_
 simp [hm]
 refine AW.a0w cc (fun a:List Nat × LV × GH=>⟨[(3,a.2.1),(6,.gp H.next 0)],[],a.2.2⟩) (fun a=>unm es.length (fun i=>decide (i ∈ a.1)))
  (fun a=>a.1.Nodup/\(∀ i ∈ a.1,i < es.length)/\VApp 3 1 (H.add (itO m es a.1)) a.2.1 ((a6q ks a.1).map rI) a.2.2)
  ([],.d (.k (.slice none 0 0)),H.add (itO m es [])) ⟨⟨by simp,by simp,by simpa [a6q] using VApp.nil⟩,by simp [itO]⟩ ?_
 rintro ⟨seen,x,H2⟩ ⟨s1,s2,hv⟩
 simp only at s1 s2 hv
 have oi:H2.obj H.next=some (itO m es seen):=by rw [hv.ob _ (by rw [GH.a0a];omega),GH.a0b,if_pos rfl]
 have om:H2.obj m=some (.map es):=by rw [hv.ob _ (by rw [GH.a0a];omega),GH.a0b,if_neg (by omega)];exact hm
 have hsl:seen.length<=es.length:=a3f _ _ s1 s2
 simp
 refine ST.next (n:=H.next) (m:=m) (seen:=seen) (es:=es) (by simp) oi om (by simp) rfl rfl hkeys (fun i e he hi=>?_) (fun hend=>?_)
 ·have hi':=(List.getElem?_eq_some_iff.1 he).1
  have hk:=hget i e he
  obtain ⟨e1,e2⟩:=e
  simp only at hk
  subst hk
  simp
  refine ST.entry (n:=H.next) (m:=m) (seen:=seen ++ [i]) (es:=es) (i:=i) (e:=_) (by simp) (by rw [GH.a0n]) (by rw [GH.a0f,if_neg (by omega)];exact om) (by simp) rfl hkeys (by simp) he ?_
  obtain ⟨H3,hH3⟩:∃ H3,H2.set H.next (GO.iter m es.length (seen ++ [i]) es.length)=H3:=⟨_,rfl⟩
  have hv3:=hv.set (k:=H.next) (by rw [GH.a0a];omega) (itO m es (seen ++ [i]))
  have hset:∀ a b:GO,(H.add a).set H.next b=H.add b:=fun a b=>GH.a1v
  rw [show H2.set H.next (itO m es (seen ++ [i]))=H3 from hH3,hset] at hv3
  have hsn:(seen ++ [i]).Nodup:=by
   rw [List.nodup_append]
   exact ⟨s1,by simp,fun a ha b hb=>by simp at hb;subst hb;intro q;subst q;exact hi ha⟩
  have hmea:unm es.length (fun j=>decide (j ∈ seen ++ [i])) < unm es.length (fun j=>decide (j ∈ seen)):=by
   have:=b2n (n:=es.length) (M:=fun j=>decide (j ∈ seen)) hi' (by simpa using hi)
   have e2:a4q (fun j=>decide (j ∈ seen)) i=fun j=>decide (j ∈ seen ++ [i]):=by
    funext j;simp only [a4q];by_cases q:j=i <;> simp [q]
   rw [e2] at this;exact this
  have hall:∀ j ∈ seen ++ [i],j < es.length:=fun j hj=>by
   rcases List.mem_append.1 hj with q | q
   ·exact s2 j q
   ·simp at q;subst q;exact hi'
  have hwk:a6q ks (seen ++ [i])=a6q ks seen ++ [((ks.getD i 0:Nat):Int)]:=by simp [a6q]
  have hwl:(a6q ks seen).length=seen.length:=by simp [a6q]
  obtain ⟨kv,hkv⟩:∃ kv:Int,((ks.getD i 0:Nat):Int)=kv:=⟨_,rfl⟩
  rw [hkv] at hwk |-
  simp [hH3,b4x]
  refine ⟨hv.plain.unP,APK.appV (ys:=[rI kv]) tyE94 rfl tyE3 (by simp) (x:=x) (by simp [hv.plain.all]) hv3 (by simp [a9g,rowsOf,rI]) (by simp) (d5j _) (fun r hr=>by simp only [List.mem_singleton] at hr;subst hr;rfl) (by simp;omega) (by simp) fun x' H5 h5 _ _=>?_⟩
  simp [h5.plain.all]
  refine NX.go (seen ++ [i],x',H5) hmea ⟨hsn,hall,?_⟩ (by simp [h5.only])
  rw [hwk,List.map_append];exact h5
 ·simp
  have hperm:=c1m (ks:=ks) s1 (by rw [<- hel];exact s2) (by rw [<- hel];exact hend)
  have hfin:b7j (a6q ks seen)=natI ((List.range n).filter M):=by
   have h1:=c7b hkn (n:=n) (M:=M) fun k=>⟨fun q=>⟨hb k ((hkm k).1 q),(hkm k).1 q⟩,fun q=>(hkm k).2 q.2⟩
   rw [<- h1]
   have hnd:(natI ks).Nodup:=by
    unfold natI
    rw [List.Nodup,List.pairwise_map]
    exact hkn.imp fun {a b} q e=>q (by omega)
   have hnd2:(a6q ks seen).Nodup:=hperm.symm.nodup hnd
   exact a4b (lt:=fun a b:Int=>a < b) (fun a=>by omega) (fun _ _ _ p q=>by omega) (a9h _ hnd2) (a9h _ hnd) fun x=>by rw [(a2r _).mem_iff,(a2r _).mem_iff,hperm.mem_iff]
  obtain ⟨W,hW⟩:∃ W,a6q ks seen=W:=⟨_,rfl⟩
  rw [hW] at hv hfin hperm
  have hWl:W.length<=12:=by rw [hperm.length_eq];simp [natI];omega
  have o2:∀ m,m < H.next->H2.obj m=H.obj m:=fun m hm=>by rw [hv.ob m (by rw [GH.a0a];omega),GH.a0b,if_neg (by omega)]
  have n2:=hv.nx
  rw [GH.a0a] at n2
  refine AW.seq cc ?_
  simp [hv.plain.all]
  rcases id hv.is with ⟨q1,rfl⟩ | ⟨n',g,q1,q2,rfl,q4,q5⟩
  ·have hW0:W=[]:=by simpa using q1
   have hfi0:natI ((List.range n).filter M)=[]:=by rw [<- hfin,hW0];exact List.Perm.eq_nil (a2r [])
   have hs0:=c8v H2
   refine ⟨by simp [LV.nb],EC.of hs0 (fun v H3 hR=>?_) (fun v H3 hR=>by obtain ⟨⟨_,e⟩,_⟩:=hR;cases e)⟩
   obtain ⟨_,rfl⟩:=hR
   simp
   refine AW.ev cc ?_
   simp [hfi0]
   exact fun _=>a0m (by omega) o2 hw.none
  ·rw [a7p] at q4
   rw [GH.a0a] at q1
   have hs:=d6l W.toArray (by simpa using hWl) n' H2 g (by simpa using q4)
   have hsz:W.toArray.size=W.length:=by simp
   rw [hsz] at hs
   have hWm:(W.map rI).length=W.length:=by simp
   rw [hWm]
   refine ⟨by simp [LV.nb];omega,EC.of hs (fun v H3 hR=>?_) (fun v H3 hR=>by obtain ⟨⟨_,e⟩,_⟩:=hR;cases e)⟩
   obtain ⟨_,hE⟩:=hR
   rw [hE]
   have hso:(insertionSort ltI W.toArray 0 W.length).toList=natI ((List.range n).filter M):=hfin
   rw [hso]
   simp
   obtain ⟨F,hF⟩:∃ F,natI ((List.range n).filter M)=F:=⟨_,rfl⟩
   have hFl:F.length=W.length:=by rw [<- hF,<- hfin];exact (a2r W).length_eq
   rw [hF]
   refine AW.thaw (n:=n') (g:=g) (sz:=1) (e:=3) (ex:=false) (F.map rI) (by rw [GH.a0n,a7p]) rfl (d5j _) ?_
   refine AW.ev cc ?_
   have htf:(F.map rI).take W.length=F.map rI:=List.take_of_length_le (by simp;omega)
   have hFle:W.length<=F.length:=by omega
   simp [hFle,htf]
   have o3:∀ m,m < H.next->(H2.set n' (.vec 3 g 1 (F.map lvI) false)).obj m=H.obj m:=fun m hm=>by rw [GH.a0f,if_neg (by omega)];exact o2 m hm
   exact fun hz=>a0m (by simp only [GH.a0l];omega) (fun m hm=>a9e hw (by omega) o3 hm) hw.none
end Go.Aft
end
section
set_option maxRecDepth 20000
namespace Go.Aft
open Go.Proofs.Tryz
def OwnX (e sz N:Nat) (x:LV) (rows:List (List DV)) (G:GH):Prop:=AppX e sz ⟨G.obj,N⟩ x rows G
theorem OwnX.keep {e sz N:Nat} {x:LV} {rows:List (List DV)} {G G':GH} (h:OwnX e sz N x rows G) (hn:G.next<=G'.next) (ho:∀ m,N<=m->m < G.next->G'.obj m=G.obj m):OwnX e sz N x rows G':=by
 refine ⟨?_,Nat.le_trans h.nx hn,fun m hm=>rfl⟩
 rcases h.is with q | ⟨n,q1,q2,q3,q4⟩
 ·exact .inl q
 ·simp only at q1
  exact .inr ⟨n,q1,by omega,q3,by rw [ho n q1 q2];exact q4⟩
theorem OwnX.nil {e sz N:Nat} {G:GH} (h:N<=G.next):OwnX e sz N (.d (.k (.slice none 0 0))) [] G:=⟨.inl ⟨rfl,rfl⟩,h,fun _ _=>rfl⟩
theorem OwnX.of {e sz N:Nat} {B:GH} (hB:B.next=N) {x:LV} {rows:List (List DV)} {G:GH} (h:AppX e sz B x rows G):OwnX e sz N x rows G:=by
 refine ⟨?_,hB ▸ h.nx,fun m hm=>rfl⟩
 rcases h.is with q | ⟨n,q1,q2,q3,q4⟩
 ·exact .inl q
 ·exact .inr ⟨n,by simp only;omega,q2,q3,q4⟩
theorem Sco.keep {H H':GH} {n m1 m2 m3:Nat} {srcs defs:List Str} {a k:Int} (h:Sco H n m1 m2 m3 srcs defs a k) (hw:nbH H) (ho:∀ m,m < H.next->H'.obj m=H.obj m):Sco H' n m1 m2 m3 srcs defs a k :=
 ⟨by rw [ho _ (hw.lt h.sc)];exact h.sc,by rw [ho _ (hw.lt h.o1)];exact h.o1,by rw [ho _ (hw.lt h.o2)];exact h.o2,by rw [ho _ (hw.lt h.o3)];exact h.o3⟩
theorem f1b (l:List (List Nat)):∀ r ∈ l.map rT,r.length=1:=fun r hr=>by obtain ⟨_,_,rfl⟩:=List.mem_map.1 hr;rfl
def b6h (n:Nat) (R:Nat->Nat->Bool) (i:Nat):Bool:=R i i && (ringAt n R i).head? == some i
def a2x (n:Nat) (R:Nat->Nat->Bool) (i:Nat):List (List Nat):=((List.range i).filter (b6h n R)).map (ringAt n R)
theorem MapB.getB {es:List (Value × LV)} {M:Nat->Bool} (h:MapB es M) (k:Nat):(a1c (.int .i64 k) es).getD (.d (.k (.bool false)))=.d (.k (.bool (M k))):=by
 rw [h.get k];cases M k <;> rfl
theorem c7f (n:Nat) (R:Nat->Nat->Bool) (i:Nat):a2x n R (i+1)=a2x n R i ++ (if b6h n R i=true then [ringAt n R i] else []):=by
 unfold a2x
 rw [List.range_succ,List.filter_append,List.map_append,List.filter_cons]
 cases q:b6h n R i <;> simp
theorem e2k {n:Nat} {R:Nat->Nat->Bool} (ht:∀ i j k,R i j=true->R j k=true->R i k=true) {i:Nat} (hi:i < n):(((a2x n R i).any fun r=>r.contains i) || !R i i) = !b6h n R i:=by
 have hin:((a2x n R i).any fun r=>r.contains i)=true ↔ ∃ j,j < i/\b6h n R j=true/\i ∈ ringAt n R j:=by
  simp only [a2x,List.any_eq_true,List.mem_map,List.mem_filter,List.mem_range]
  constructor
  ·rintro ⟨r,⟨j,⟨h1,h2⟩,rfl⟩,h3⟩;exact ⟨j,h1,h2,by simpa using h3⟩
  ·rintro ⟨j,h1,h2,h3⟩;exact ⟨_,⟨j,⟨h1,h2⟩,rfl⟩,by simpa using h3⟩
 have hsame:∀ j,R i j=true->R j i=true->ringAt n R j=ringAt n R i:=fun j h1 h2=>by
  unfold ringAt
  refine List.filter_congr fun k _=>?_
  rw [Bool.eq_iff_iff]
  simp only [Bool.or_eq_true,beq_iff_eq,Bool.and_eq_true]
  constructor
  ·rintro (rfl | ⟨h3,h4⟩)
   ·exact .inr ⟨h1,h2⟩
   ·exact .inr ⟨ht _ _ _ h1 h3,ht _ _ _ h4 h2⟩
  ·rintro (rfl | ⟨h3,h4⟩)
   ·exact .inr ⟨h2,h1⟩
   ·exact .inr ⟨ht _ _ _ h2 h3,ht _ _ _ h4 h1⟩
 cases hq:b6h n R i with
 | true =>
  simp only [b6h,Bool.and_eq_true,beq_iff_eq] at hq
  have h1:((a2x n R i).any fun r=>r.contains i)=false:=by
   rw [Bool.eq_false_iff];intro z
   obtain ⟨j,hj,hjq,hm⟩:=hin.1 z
   simp only [b6h,Bool.and_eq_true,beq_iff_eq] at hjq
   have:=a0z.1 hm
   have h2:R j i=true/\R i j=true:=by
    rcases this.2 with e | e
    ·omega
    ·exact e
   have:=hsame j h2.2 h2.1
   rw [this,hq.2] at hjq
   have:=Option.some.inj hjq.2
   omega
  rw [h1,hq.1];rfl
 | false =>
  cases hr:R i i with
  | false=>simp
  | true =>
   have h1:((a2x n R i).any fun r=>r.contains i)=true:=by
    refine hin.2 ?_
    have hmem:i ∈ ringAt n R i:=a0z.2 ⟨hi,.inl rfl⟩
    obtain ⟨j,hj⟩:∃ j,(ringAt n R i).head?=some j:=by
     cases h:ringAt n R i with
     | nil=>rw [h] at hmem;cases hmem
     | cons a l=>exact ⟨a,rfl⟩
    have hjm:j ∈ ringAt n R i:=List.mem_of_mem_head? (by rw [hj];exact rfl)
    obtain ⟨hjn,hji⟩:=a0z.1 hjm
    have hne:j ≠ i:=fun e=>by
     rw [e] at hj
     simp [b6h,hr,hj] at hq
    have hR2:R i j=true/\R j i=true:=by
     rcases hji with e | e
     ·exact absurd e hne
     ·exact e
    have hs:=hsame j hR2.1 hR2.2
    refine ⟨j,?_,?_,by rw [hs];exact hmem⟩
    ·have hinc:(ringAt n R i).Pairwise (· < ·):=List.pairwise_lt_range.filter _
     cases h:ringAt n R i with
     | nil=>rw [h] at hj;cases hj
     | cons a l =>
      rw [h] at hj hmem hinc
      simp at hj;subst hj
      rcases List.mem_cons.1 hmem with e | e
      ·exact absurd e.symm hne
      ·exact (List.pairwise_cons.1 hinc).1 _ e
    ·simp only [b6h,hs,hj,Bool.and_eq_true,beq_self_eq_true,and_true]
     exact ht _ _ _ hR2.2 hR2.1
   rw [h1];rfl
theorem e2x {p:Prog} {i k:Nat} (h:Path (a3p p) i k):k < p.defs.length:=by
 have key:∀ i k,a3p p i k->k < p.defs.length:=fun i k ⟨_,e,_,_,h⟩=>by
  have:=b9l (a0d p) e.name
  have h2:(a0d p).length=p.defs.length:=by simp [a0d]
  omega
 induction h with
 | one h=>exact key _ _ h
 | cons _ _ ih=>exact ih
theorem d8u (p:Prog) (hstr:∀ s ∈ p.srcs ++ a0d p,a2b s) (hp:formed p) (g:Good p) (H:GH) :
  a0j prog 120 [lv (a0h p)] H fun ce H'=>ce=.ret (.tup [sl ((a2s p.defs.length (pathB p)).map rT),lvI 0])/\H'=H:=by
 have cc:=a0g (p:=kds [1] [] [])
 refine a0j.a3a (a0g (p:=kds [1] [] [])) func120 rfl call120 (by rw [ntmps120];simp) rfl fun hf hw=>?_
 have hlk:=b1y p hstr H
 simp [a0h] at hlk
 simp [ntmps120,results120,a0h] at hf |-
 refine AW.seq cc ?_
 simp
 refine AW.seq cc ?_
 simp
 refine EC.of hlk (fun v H1 hR=>?_) (fun v H1 hR=>by rw [if_pos hp] at hR;obtain ⟨⟨_,q,_⟩,_⟩:=hR;cases q)
 rw [if_pos hp] at hR
 obtain ⟨⟨sn,q,hrefs,hsn,m1,m2,m3,ah,nd,hsco⟩,hn1,ho1⟩:=hR
 cases q
 simp
 refine AW.nbZ (fun hw1=>?_)
 simp only at hw1
 have hsnl:=hw1.lt hsco.sc
 refine AW.seq cc ?_
 simp
 refine AW.seq cc ?_
 simp
 refine AW.seq cc ?_
 simp
 refine AW.seq cc ?_
 simp
 obtain ⟨n,hn⟩:∃ n,p.defs.length=n:=⟨_,rfl⟩
 obtain ⟨R,hR⟩:∃ R,pathB p=R:=⟨_,rfl⟩
 have hn6:n<=6:=hn ▸ g.n6
 obtain ⟨mi,hmi⟩:∃ mi,H1.next=mi:=⟨_,rfl⟩
 rw [hn,hR,hmi]
 have hi1:=hsco
 refine AW.e0i cc (fun a:Nat × LV × List (Value × LV) × GH=>⟨[(1,.ip ((a0h p).map .d) 0),(4,.gp sn 0),(5,a.2.1),(6,.gm mi),(19,lvI n),(20,lvI a.1)],[],a.2.2.2⟩) (fun a=>n - a.1)
  (fun a=>a.1<=n/\mi+1<=a.2.2.2.next/\a.2.2.2.obj mi=some (.map a.2.2.1)/\MapB a.2.2.1 (fun k=>(a2x n R a.1).any fun r=>r.contains k)/\(∀ m,m < mi->a.2.2.2.obj m=H1.obj m)/\OwnX 94 1 (mi+1) a.2.1 ((a2x n R a.1).map rT) a.2.2.2)
  (0,.d (.k (.slice none 0 0)),[],H1.add (.map [])) ⟨⟨Nat.zero_le _,?_,?_,?_,?_,?_⟩,by simp [a0h]⟩ ?_
 ·simp only [GH.a0a];omega
 ·simp only [GH.a0b];rw [if_pos hmi.symm]
 ·simp only [a2x];simpa using MapB.nil
 ·exact fun m hm=>by simp only [GH.a0b];rw [if_neg (by omega)]
 ·simpa [a2x] using OwnX.nil (by rw [GH.a0a];omega)
 rintro ⟨i,x,es,G⟩ ⟨hi,c0,c1,c2,c3,c4⟩
 simp only at hi c0 c1 c2 c3 c4
 refine AW.seq cc ?_
 simp [a0h]
 refine AW.seq cc ?_
 simp
 refine ⟨fun h=>?_,fun h=>?_⟩
 ·have hsc:Sco G sn m1 m2 m3 p.srcs (a0d p) ah nd:=hsco.keep hw1 (fun m hm=>c3 m (by rw [<- hmi];exact hm))
  have hre:=fun (k:Nat) (hk:k < n) (G:GH) (hG:Sco G sn m1 m2 m3 p.srcs (a0d p) ah nd)=>b4d p hrefs sn m1 m2 m3 ah nd k (by omega) G hG
  have hr1:=hre i h G hsc
  simp [a0h] at hr1
  refine AW.seqW (c:=cxK (kds [1] [] [])) ?_
  refine AW.block (c:=cxK (kds [1] [] [])) ?_
  refine AW.seq cc ?_
  simp
  refine AW.seq cc ?_
  simp
  refine ⟨by omega,EC.of hr1 (fun v G2 hR=>?_) (fun v G2 hR=>by cases hR.1)⟩
  obtain ⟨q,er,hG2,hmr⟩:=hR
  cases q
  rw [hG2]
  clear hG2
  simp
  have hgi:=c2.getB i
  have hgr:∀ k,(a1c (.int .i64 ((k:Nat):Int)) er).getD (.d (.k (.bool false)))=.d (.k (.bool (R i k))):=fun k=>by rw [hmr.getB k,<- hR];rfl
  have hks:=eq_true c2.key
  have hkr:=eq_true hmr.key
  have og:∀ X,(G.add X).obj mi=some (.map es):=fun X=>by rw [GH.a0b,if_neg (by omega)];exact c1
  have og2:∀ X,(G.add X).obj G.next=some X:=fun X=>by rw [GH.a0b,if_pos rfl]
  have hskip:=e2k (n:=n) (R:=R) (fun i j k h1 h2=>by rw [<- hR] at h1 h2 |-;simp only [pathB,decide_eq_true_eq] at h1 h2 |-;exact h1.trans h2) h
  have hsu:=c7f n R i
  obtain ⟨inB,hinB⟩:∃ inB,((a2x n R i).any fun r=>r.contains i)=inB:=⟨_,rfl⟩
  rw [hinB] at hskip hgi
  refine AW.seq cc ?_
  simp [og,og2,hks,hkr,hgi,hgr]
  have hw':=wrap_succ (n:=9223372036854775807) (show i < 9223372036854775807 by omega)
  have hGn:∀ X,G.next<=(G.add X).next:=fun X=>by rw [GH.a0a];omega
  have hGo:∀ X m,m < G.next->(G.add X).obj m=G.obj m:=fun X m hm=>by rw [GH.a0b,if_neg (by omega)]
  have hx1:OwnX 94 1 (mi+1) x ((a2x n R i).map rT) (G.add (.map er)):=c4.keep (hGn _) fun m _ hm=>hGo _ m hm
  refine ⟨fun q=>?_,fun q1 q2=>?_⟩
  ·have hrq:b6h n R i=false:=by
    have h1:(inB || !R i i)=true:=by
     rcases q with q | q <;> simp [q]
    rw [hskip] at h1;simpa using h1
   rw [hrq] at hsu
   simp only [Bool.false_eq_true,if_false,List.append_nil] at hsu
   refine AW.ev cc ?_
   simp [hw']
   exact NX.go (i+1,x,es,G.add (.map er)) (by simp only;omega) ⟨h,by simp only [GH.a0a];omega,og _,by simp only;rw [hsu];exact c2,fun m hm=>by simp only;rw [hGo _ m (by omega)];exact c3 m hm,by simp only;rw [hsu];exact hx1⟩ (by simp [a0h,c4.only])
  ·have hrq:b6h n R i=true:=by
    have h1:(inB || !R i i)=false:=by rw [q1,q2];rfl
    rw [hskip] at h1;simpa using h1
   rw [hrq] at hsu
   simp only [if_true] at hsu
   obtain ⟨L,hL⟩:∃ L,(List.range n).filter (R i)=L:=⟨_,rfl⟩
   have hso:=b1x (m:=G.next) (n:=n) (by omega) hmr (fun k hk=>by rw [<- hn];exact e2x (by simpa [reachB] using hk)) (og2 _)
   have hRi:reachB p i=R i:=by rw [<- hR];rfl
   rw [hRi,hL] at hso
   refine AW.seq cc ?_
   simp
   refine AW.seq cc ?_
   simp
   refine ⟨by rw [GH.a0a];omega,EC.of hso (fun v G3 hR=>?_) (fun v G3 hR=>by cases hR.1)⟩
   obtain ⟨q,rfl⟩:=hR
   cases q
   simp
   obtain ⟨B,hB⟩:∃ B,B=G.add (.map er):=⟨_,rfl⟩
   rw [<- hB] at hx1 |-
   have hBmi:B.obj mi=some (.map es):=by rw [hB];exact og _
   have hBn:B.next=G.next+1:=by rw [hB];rfl
   have hBl:∀ m,m < mi->B.obj m=H1.obj m:=fun m hm=>by rw [hB,hGo _ m (by omega)];exact c3 m hm
   have hLl:L.length<=6:=by rw [<- hL];exact Nat.le_trans (List.length_filter_le _ _) (by simp;omega)
   refine AW.a0w cc (fun a:Nat × LV × List (Value × LV) × GH=>⟨[(1,.ip ((a0h p).map .d) 0),(4,.gp sn 0),(5,x),(6,.gm mi),(7,lvI i),(9,a.2.1),(19,lvI n),(20,lvI i),(37,sl ((natI L).map rI)),(38,lvI L.length),(39,lvI a.1)],[],a.2.2.2⟩) (fun a=>L.length - a.1)
    (fun a=>a.1<=L.length/\B.next<=a.2.2.2.next/\a.2.2.2.obj mi=some (.map a.2.2.1)/\MapB a.2.2.1 (fun k=>((a2x n R i).any fun r=>r.contains k) || ((L.take a.1).filter fun k=>R k i).contains k)/\(∀ m,m < B.next->m ≠ mi->a.2.2.2.obj m=B.obj m)/\OwnX 3 1 B.next a.2.1 ((natI ((L.take a.1).filter fun k=>R k i)).map rI) a.2.2.2)
    (0,.d (.k (.slice none 0 0)),es,B) ⟨⟨Nat.zero_le _,Nat.le_refl _,hBmi,by simpa using c2,fun m hm _=>rfl,by simpa [natI] using OwnX.nil (Nat.le_refl _)⟩,by simp [a0h,hx1.only,natI]⟩ ?_
   rintro ⟨j,y,es2,G4⟩ ⟨hj,d0,d1,d2,d3,d4⟩
   simp only at hj d0 d1 d2 d3 d4
   simp
   refine ⟨fun hjl=>?_,fun hjl=>?_⟩
   ·have hjl':j < L.length:=by simpa [natI] using hjl
    obtain ⟨k,hk⟩:∃ k,L[j]=k:=⟨_,rfl⟩
    have htk:L.take (j+1)=L.take j ++ [k]:=by rw [<- a0p hjl',hk]
    have hkm:k ∈ L:=hk ▸ List.getElem_mem hjl'
    have hkn:k < n:=by rw [<- hL] at hkm;exact List.mem_range.1 (List.mem_filter.1 hkm).1
    have hsc4:Sco G4 sn m1 m2 m3 p.srcs (a0d p) ah nd:=hsco.keep hw1 fun m hm=>by rw [d3 m (by omega) (by omega)];exact hBl m (by omega)
    have hr4:=hre k hkn G4 hsc4
    simp [a0h] at hr4
    have hgk:(natI L)[j]?=some (k:Int):=by simp [natI,List.getElem?_eq_getElem hjl',hk]
    simp [hjl',hgk,rI,a0h,natI,hk]
    refine ⟨by omega,EC.of hr4 (fun v G5 hR=>?_) (fun v G5 hR=>by cases hR.1)⟩
    obtain ⟨q,er4,hG5,hm4⟩:=hR
    cases q
    rw [hG5]
    clear hG5
    have o5:∀ X,(G4.add X).obj G4.next=some X:=fun X=>by rw [GH.a0b,if_pos rfl]
    have o5m:∀ X,(G4.add X).obj mi=some (.map es2):=fun X=>by rw [GH.a0b,if_neg (by omega)];exact d1
    have h4g:(a1c (.int .i64 ((i:Nat):Int)) er4).getD (.d (.k (.bool false)))=.d (.k (.bool (R k i))):=by rw [hm4.getB i,<- hR];rfl
    have hk4:=eq_true hm4.key
    have hk2:=eq_true d2.key
    have hwj:=wrap_succ (n:=9223372036854775807) (show j < 9223372036854775807 by omega)
    have hfs:(L.take (j+1)).filter (fun k=>R k i)=(L.take j).filter (fun k=>R k i) ++ (if R k i=true then [k] else []):=by
     rw [htk,List.filter_append,List.filter_cons]
     cases R k i <;> simp
    have hfl:((L.take j).filter fun k=>R k i).length<=6:=Nat.le_trans (List.length_filter_le _ _) (by simp;omega)
    have d4':OwnX 3 1 B.next y ((natI ((L.take j).filter fun k=>R k i)).map rI) (G4.add (.map er4)):=d4.keep (by rw [GH.a0a];omega) fun m _ hm=>by rw [GH.a0b,if_neg (by omega)]
    simp [o5,hk4,h4g,d4.plain.all]
    refine ⟨fun hq=>?_,fun hq=>?_⟩
    ·rw [hq] at hfs
     simp only [if_true] at hfs
     refine APK.appX (H0:=⟨(G4.add (.map er4)).obj,B.next⟩) (ys:=[rI (k:Nat)]) tyE94 rfl tyE3 (by simp) (x:=y) (by simp) d4' (by simp [rowsOf,rI]) (by simp) (fun r hr=>by obtain ⟨_,_,rfl⟩:=List.mem_map.1 hr;rfl) (fun r hr=>by simp only [List.mem_singleton] at hr;subst hr;rfl) (by simp [natI];omega) (by simp) fun y' G6 h6 hn6 _=>?_
     simp only [GH.a0a] at hn6
     have h6mi:G6.obj mi=some (.map es2):=by rw [h6.ob mi (by simp only;omega)];exact o5m _
     simp [h6.plain.all,h6mi,hk2]
     have hy6:OwnX 3 1 B.next y' ((natI ((L.take (j+1)).filter fun k=>R k i)).map rI) (G6.set mi (.map (mput (.int .i64 (k:Int)) (.d (.k (.bool true))) es2))):=by
      have h7:OwnX 3 1 B.next y' _ G6:=OwnX.of (B:=⟨(G4.add (.map er4)).obj,B.next⟩) rfl h6
      have h8:=h7.keep (G':=G6.set mi (.map (mput (.int .i64 (k:Int)) (.d (.k (.bool true))) es2))) (by rw [GH.a0l];exact Nat.le_refl _) fun m hm _=>by rw [GH.a0f,if_neg (by omega)]
      rw [hfs]
      simpa [natI] using h8
     refine NX.go (j+1,y',mput (.int .i64 (k:Int)) (.d (.k (.bool true))) es2,G6.set mi (.map (mput (.int .i64 (k:Int)) (.d (.k (.bool true))) es2))) (by simp only;omega) ⟨hjl',by simp only [GH.a0l];omega,GH.a0n,(d2.put k).congr fun u=>?_,fun m hm hne=>?_,hy6⟩ (by simp [a0h,hx1.only,h6.only,natI,hwj])
     ·simp only [a4q];rw [hfs]
      by_cases e:u=k
      ·rw [if_pos e,e];simp
      ·rw [if_neg e];simp [e]
     ·simp only
      rw [GH.a0f,if_neg hne,h6.ob m (by simp only;omega)]
      simp only
      rw [GH.a0b,if_neg (by omega)]
      exact d3 m hm hne
    ·rw [hq] at hfs
     simp only [Bool.false_eq_true,if_false,List.append_nil] at hfs
     exact NX.go (j+1,y,es2,G4.add (.map er4)) (by simp only;omega) ⟨hjl',by simp only [GH.a0a];omega,o5m _,by simp only;rw [hfs];exact d2,fun m hm hne=>by simp only;rw [GH.a0b,if_neg (by omega)];exact d3 m hm hne,by simp only;rw [hfs];exact d4'⟩ (by simp [a0h,hx1.only,d4.only,natI,hwj])
   ·have e1:j=L.length:=by
     have:¬ j < L.length:=by simpa [natI] using hjl
     omega
    subst e1
    rw [List.take_length] at d2 d4
    have hring:L.filter (fun k=>R k i)=ringAt n R i:=by
     rw [<- hL,List.filter_filter,ringAt]
     refine List.filter_congr fun k _=>?_
     rw [Bool.eq_iff_iff]
     simp only [Bool.and_eq_true,Bool.or_eq_true,beq_iff_eq]
     exact ⟨fun q=>.inr ⟨q.2,q.1⟩,fun q=>by rcases q with rfl | q;exact ⟨q2,q2⟩;exact ⟨q.2,q.1⟩⟩
    rw [hring] at d2 d4
    have hral:(ringAt n R i).length<=6:=Nat.le_trans (List.length_filter_le _ _) (by simp;omega)
    refine AW.fzT 9 (AW.ev cc ?_)
    simp [hx1.plain.all,d4.fz]
    have hx4:OwnX 94 1 (mi+1) x ((a2x n R i).map rT) G4:=hx1.keep d0 fun m hm1 hm2=>d3 m hm2 (by omega)
    have hrl:(a2x n R i).length<=6:=by
     unfold a2x;rw [List.length_map]
     exact Nat.le_trans (List.length_filter_le _ _) (by simp;omega)
    refine APK.appX (H0:=⟨G4.obj,mi+1⟩) (ys:=[rT (ringAt n R i)]) tyE44 rfl tyE94 (by simp) (x:=x) (by simp) hx4 (by simp [rowsOf,rT,natI]) (by simp) (f1b _) (fun r hr=>by simp only [List.mem_singleton] at hr;subst hr;rfl) (by simp;omega) (by simp) fun x' G6 h6 hn6 _=>?_
    simp only at hn6
    simp [h6.plain.all]
    refine AW.ev cc ?_
    simp [h6.plain.all,hw']
    have h7:OwnX 94 1 (mi+1) x' _ G6:=OwnX.of (B:=⟨G4.obj,mi+1⟩) rfl h6
    refine NX.go (i+1,x',es2,G6) (by simp only;omega) ⟨h,by simp only;omega,by simp only;rw [h6.ob mi (by simp only;omega)];exact d1,d2.congr fun u=>?_,fun m hm=>?_,?_⟩ (by simp [a0h,h6.only])
    ·simp only
     rw [hsu,List.any_append];simp
    ·simp only
     rw [h6.ob m (by simp only;omega)]
     simp only
     rw [d3 m (by omega) (by omega)];exact hBl m hm
    ·simp only
     rw [hsu,List.map_append];exact h7
 ·have e1:i=n:=by omega
  subst e1
  refine AW.ev cc ?_
  simp [c4.plain.all,c4.fz]
  exact fun _=>⟨a0m (by omega) (fun m hm=>by rw [c3 m (by omega)];exact ho1 m hm) hw.none,rfl⟩
end Go.Aft
end
