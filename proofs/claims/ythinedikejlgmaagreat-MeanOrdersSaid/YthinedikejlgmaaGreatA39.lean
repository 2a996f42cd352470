import Derived.Test.YthinedikejlgmaaGreatA38
import Derived.Test.YthinedikejlgmaaGreatA37
import Derived.Test.YthinedikejlgmaaGreatA31
set_option linter.all false
section
set_option maxRecDepth 20000
namespace Go.Aft
open Go.Proofs.Tryz
theorem c5i (l:List Int) (q:Int->Bool) (f:FuncId) (cap:List LV) (H:GH) (hcap:nbs H.next cap) (hc:∀ n ∈ l,a0j prog f ([lvI n] ++ cap) H fun ce H'=>ce=.ret (.d (.k (.bool (q n))))/\H'=H) :
  a0j prog 176 [sl (l.map rI),.fn (.func f) [] cap] H fun ce H'=>ce=.ret (lvI (idxF q l))/\H'=H:=by
 have cc:=cx0_ok
 refine a0j.a1j cx0_ok func176 rfl call176 (by rw [ntmps176];simp) rfl fun hf hw=>?_
 simp [ntmps176,results176] at hf |-
 refine AW.a0w cc (fun i:Nat=>⟨[(0,.d (.sl (l.map rI))),(1,.fn (.func f) [] cap),(7,lvI l.length),(8,lvI i)],[],H⟩) (fun i=>l.length - i) (fun i=>i<=l.length/\∀ j (h:j < l.length),j < i->q l[j]=false) 0 ⟨by simp,by simp [LV.only,a1r _ hcap,a3c]⟩ ?_
 rintro i ⟨hi,hk⟩
 simp
 refine ⟨fun h=>?_,fun h=>?_⟩
 ·have hcall:=hc l[i] (List.getElem_mem h)
  simp at hcall
  simp [h,List.getElem?_eq_getElem h,rI]
  refine ⟨hcap,EC.of hcall (fun v H2 hR=>?_) (fun v H2 hR=>?_)⟩
  ·obtain ⟨e,rfl⟩:=hR
   cases e
   simp [wrap_succ h hf.1.1]
   refine ⟨fun e=>fun hz=>⟨hz.drop (Nat.le_refl _),(c5l h e hk).symm⟩,fun e=>NX.go (i+1) (Nat.sub_lt_sub_left h (Nat.lt_succ_self i)) ⟨h,fun j hj hji=>?_⟩ (by simp [a1r _ hcap])⟩
   by_cases z:j=i
   ·subst z;exact e
   ·exact hk j hj (by omega)
  ·cases hR.1
 ·exact fun hz=>⟨hz.drop (Nat.le_refl _),(b3j fun j hj=>hk j hj (by omega)).symm⟩
theorem b6k (l:List Int) (q:Int->Bool) (f:FuncId) (cap:List LV) (H:GH) (hcap:nbs H.next cap) (hc:∀ n ∈ l,a0j prog f ([lvI n] ++ cap) H fun ce H'=>ce=.ret (.d (.k (.bool (q n))))/\H'=H) :
  a0j prog 123 [sl (l.map rI),.fn (.func f) [] cap] H fun ce H'=>ce=.ret (.d (.k (.bool (l.any q))))/\H'=H:=by
 have cc:=cx0_ok
 refine a0j.a1j cx0_ok func123 rfl call123 (by rw [ntmps123];simp) rfl fun hf hw=>?_
 have hi:=c5i l q f cap H hcap hc
 simp at hi
 simp [ntmps123,results123,LV.nb,nbs,hcap]
 refine EC.of hi (fun v H2 hR=>?_) (fun v H2 hR=>?_)
 ·obtain ⟨e,rfl⟩:=hR
  cases e
  simp
  refine fun hz=>⟨hz.drop (Nat.le_refl _),?_⟩
  rw [<- b6w q l]
 ·cases hR.1
theorem e4f (l:List Int) (k:Int):AFun prog 177 [sl (l.map rI),lvI k] (lvI (idxF (fun x=>decide (x=k)) l)):=by
 have cc:=cx0_ok
 refine AFun.body cx0_ok func177 rfl call177 (by rw [ntmps177];simp) rfl fun hf H=>?_
 simp [ntmps177,results177] at hf |-
 refine AW.a0w cc (fun i:Nat=>⟨[(0,.d (.sl (l.map rI))),(1,lvI k),(7,lvI l.length),(8,lvI i)],[],H⟩) (fun i=>l.length - i) (fun i=>i<=l.length/\∀ j (h:j < l.length),j < i->decide (l[j]=k)=false) 0 ⟨by simp,by simp⟩ ?_
 rintro i ⟨hi,hk⟩
 simp
 refine ⟨fun h=>?_,fun h=>?_⟩
 ·simp [h,List.getElem?_eq_getElem h,rI,wrap_succ h hf.1]
  refine ⟨fun e=>(c5l h (by simp [e]) hk).symm,fun e=>NX.go (i+1) (Nat.sub_lt_sub_left h (Nat.lt_succ_self i)) ⟨h,fun j hj hji=>?_⟩ (by simp)⟩
  by_cases z:j=i
  ·subst z;rw [decide_eq_false_iff_not];exact fun q=>e q.symm
  ·exact hk j hj (by omega)
 ·exact (b3j fun j hj=>hk j hj (by omega)).symm
theorem b5w (l:List Int) (k:Int):AFun prog 125 [sl (l.map rI),lvI k] (.d (.k (.bool (decide (k ∈ l))))):=by
 refine AFun.body cx0_ok func125 rfl call125 (by rw [ntmps125];simp) rfl fun hf H=>?_
 have hi:=e4f l k
 simp at hi
 simp [ntmps125,results125]
 refine EC.afun hi ?_
 simp
 have:=b6w (fun x=>decide (x=k)) l
 have h2:(0<=idxF (fun x=>decide (x=k)) l) ↔ (l.any fun x=>decide (x=k))=true:=by rw [<- this];simp
 rw [h2];simp
theorem d5a (p:Prog) (hstr:∀ s ∈ p.srcs ++ a0d p,a2b s) (hp:formed p) (d:Nat) (hd:d < p.defs.length) (H:GH) :
  a0j prog 97 [lv (a0h p),lvI d] H fun ce H'=>(∃ n,ce=.ret (.tup [.gp n 0,.d (.k (.bool true))])/\n < H'.next/\c7h p/\∃ m1 m2 m3 a k,H.next<=n/\Sco H' n m1 m2 m3 p.srcs (a0d p) a k)/\nbH H'/\H.next<=H'.next/\∀ m,m < H.next->H'.obj m=H.obj m:=by
 have cc:=a0g (p:=kds [2] [] [])
 refine a0j.a1j (a0g (p:=kds [2] [] [])) func97 rfl call97 (by rw [ntmps97];simp) rfl fun hf hw=>?_
 have hlk:=b1y p hstr H
 simp [a0h] at hlk
 simp [ntmps97,results97,a0h] at hf |-
 refine EC.of hlk (fun v H1 hR=>?_) (fun v H1 hR=>by rw [if_pos hp] at hR;obtain ⟨⟨_,q,_⟩,_⟩:=hR;cases q)
 rw [if_pos hp] at hR
 obtain ⟨⟨sn,q,hrefs,hsn,m1,m2,m3,ah,nd,hsco⟩,hn1,ho1⟩:=hR
 cases q
 simp
 refine AW.nbZ (fun hw1=>?_)
 simp only at hw1
 have hsnl:=hw1.lt hsco.sc
 refine AW.draw cc [] (.q 0<|.q 1<|.q 2<|.q 3<|.q 4<|.q 5<|.q 6<|.q 7<|.q 8<|.q 9<|.q 14<|.q 10<|.q 11<|.q 12<|.q 13<|.q 15<|.done) (by kernel_rfl) ?_
 simp [a0h]
 exact fun hz=>⟨H1,hz.drop hn1,hsnl,⟨sn,⟨rfl,hd⟩,hsnl,hrefs,hsn,m1,m2,m3,ah,nd,hsco⟩,hz,hn1,ho1⟩
end Go.Aft
end
section
set_option maxRecDepth 20000
namespace Go.Aft
open Go.Proofs.Tryz
open Go.Sort (insertionSort)
theorem c6s {m n:Nat} (hn:n<=12) {es:List (Value × LV)} {M:Nat->Bool} {H:GH} (hM:MapB es M) (hb:∀ k,M k=true->k < n) (hm:H.obj m=some (.map es)) :
  a0j prog 101 [.gm m] H fun ce H'=>∃ x,ce=.ret x/\VApp 3 1 H x ((natI ((List.range n).filter M)).map rI) H':=by
 have cc:=a0g (p:=kds [] [] [14])
 refine a0j.e5z (a0g (p:=kds [] [] [14])) func101 rfl call101 (by rw [ntmps101];simp) rfl fun hf hw=>?_
 have hmn:=hw.lt hm
 obtain ⟨ks,hkn,hke⟩:=hM.nat
 have hkm:=hM.mem hke
 have hel:es.length=ks.length:=by have:=congrArg List.length hke;simpa using this
 have hkl:ks.length<=n:=a3f n ks hkn fun i hi=>hb i ((hkm i).1 hi)
 have hkeys:es.all (fun e=>b4w e.1)=true:=List.all_eq_true.2 fun e he=>by
  have:e.1 ∈ es.map (·.1):=List.mem_map.2 ⟨e,he,rfl⟩
  rw [hke] at this
  obtain ⟨k,_,q⟩:=List.mem_map.1 this
  rw [<- q];rfl
 have hget:∀ (i:Nat) (e:Value × LV),es[i]?=some e->e.1=Value.int .i64 (ks.getD i 0:Nat):=fun i e he=>by
  have h1:(es.map (·.1))[i]?=some e.1:=by simp [he]
  rw [hke] at h1
  simp only [List.getElem?_map,Option.map_eq_some_iff] at h1
  obtain ⟨k,h2,h3⟩:=h1
  rw [<- h3];simp [List.getD,h2]
 simp [ntmps101,results101]
 refine AW.seq cc ?_
 simp
 refine AW.seq cc ?_
 simp
 refine AW.seq cc ?_
 simp [hm]
 refine AW.a0w cc (fun a:List Nat × LV × GH=>⟨[(3,a.2.1),(6,.gp H.next 0)],[],a.2.2⟩) (fun a=>unm es.length (fun i=>decide (i ∈ a.1)))
  (fun a=>a.1.Nodup/\(∀ i ∈ a.1,i < es.length)/\VApp 3 1 (H.add (itO m es a.1)) a.2.1 ((a6q ks a.1).map rI) a.2.2)
  ([],.d (.k (.slice none 0 0)),H.add (itO m es [])) ⟨⟨by simp,by simp,by simpa [a6q] using VApp.nil⟩,by simp [itO]⟩ ?_
 rintro ⟨seen,x,H2⟩ ⟨s1,s2,hv⟩
 simp only at s1 s2 hv
 have oi:H2.obj H.next=some (itO m es seen):=by rw [hv.ob _ (by rw [GH.a0a];omega),GH.a0b,if_pos rfl]
 have om:H2.obj m=some (.map es):=by rw [hv.ob _ (by rw [GH.a0a];omega),GH.a0b,if_neg (by omega)];exact hm
 have hsl:seen.length<=es.length:=a3f _ _ s1 s2
 simp
 refine ST.next (n:=H.next) (m:=m) (seen:=seen) (es:=es) (by simp) oi om (by simp) rfl rfl hkeys (fun i e he hi=>?_) (fun hend=>?_)
 ·have hi':=(List.getElem?_eq_some_iff.1 he).1
  have hk:=hget i e he
  obtain ⟨e1,e2⟩:=e
  simp only at hk
  subst hk
  simp
  refine ST.entry (n:=H.next) (m:=m) (seen:=seen ++ [i]) (es:=es) (i:=i) (e:=_) (by simp) (by rw [GH.a0n]) (by rw [GH.a0f,if_neg (by omega)];exact om) (by simp) rfl hkeys (by simp) he ?_
  obtain ⟨H3,hH3⟩:∃ H3,H2.set H.next (GO.iter m es.length (seen ++ [i]) es.length)=H3:=⟨_,rfl⟩
  have hv3:=hv.set (k:=H.next) (by rw [GH.a0a];omega) (itO m es (seen ++ [i]))
  have hset:∀ a b:GO,(H.add a).set H.next b=H.add b:=fun a b=>GH.a1v
  rw [show H2.set H.next (itO m es (seen ++ [i]))=H3 from hH3,hset] at hv3
  have hsn:(seen ++ [i]).Nodup:=by
   rw [List.nodup_append]
   exact ⟨s1,by simp,fun a ha b hb=>by simp at hb;subst hb;intro q;subst q;exact hi ha⟩
  have hmea:unm es.length (fun j=>decide (j ∈ seen ++ [i])) < unm es.length (fun j=>decide (j ∈ seen)):=by
   have:=b2n (n:=es.length) (M:=fun j=>decide (j ∈ seen)) hi' (by simpa using hi)
   have e2:a4q (fun j=>decide (j ∈ seen)) i=fun j=>decide (j ∈ seen ++ [i]):=by
    funext j;simp only [a4q];by_cases q:j=i <;> simp [q]
   rw [e2] at this;exact this
  have hall:∀ j ∈ seen ++ [i],j < es.length:=fun j hj=>by
   rcases List.mem_append.1 hj with q | q
   ·exact s2 j q
   ·simp at q;subst q;exact hi'
  have hwk:a6q ks (seen ++ [i])=a6q ks seen ++ [((ks.getD i 0:Nat):Int)]:=by simp [a6q]
  have hwl:(a6q ks seen).length=seen.length:=by simp [a6q]
  obtain ⟨kv,hkv⟩:∃ kv:Int,((ks.getD i 0:Nat):Int)=kv:=⟨_,rfl⟩
  rw [hkv] at hwk |-
  simp [hH3,b4x]
  refine ⟨hv.plain.unP,APK.appV (ys:=[rI kv]) tyE94 rfl tyE3 (by simp) (x:=x) (by simp [hv.plain.all]) hv3 (by simp [a9g,rowsOf,rI]) (by simp) (d5j _) (fun r hr=>by simp only [List.mem_singleton] at hr;subst hr;rfl) (by simp;omega) (by simp) fun x' H5 h5 _ _=>?_⟩
  simp [h5.plain.all]
  refine NX.go (seen ++ [i],x',H5) hmea ⟨hsn,hall,?_⟩ (by simp [h5.only])
  rw [hwk,List.map_append];exact h5
 ·simp
  have hperm:=c1m (ks:=ks) s1 (by rw [<- hel];exact s2) (by rw [<- hel];exact hend)
  have hfin:b7j (a6q ks seen)=natI ((List.range n).filter M):=by
   have h1:=c7b hkn (n:=n) (M:=M) fun k=>⟨fun q=>⟨hb k ((hkm k).1 q),(hkm k).1 q⟩,fun q=>(hkm k).2 q.2⟩
   rw [<- h1]
   have hnd:(natI ks).Nodup:=by
    unfold natI
    rw [List.Nodup,List.pairwise_map]
    exact hkn.imp fun {a b} q e=>q (by omega)
   have hnd2:(a6q ks seen).Nodup:=hperm.symm.nodup hnd
   exact a4b (lt:=fun a b:Int=>a < b) (fun a=>by omega) (fun _ _ _ p q=>by omega) (a9h _ hnd2) (a9h _ hnd) fun x=>by rw [(a2r _).mem_iff,(a2r _).mem_iff,hperm.mem_iff]
  obtain ⟨W,hW⟩:∃ W,a6q ks seen=W:=⟨_,rfl⟩
  rw [hW] at hv hfin hperm
  have hWl:W.length<=12:=by rw [hperm.length_eq];simp [natI];omega
  have o2:∀ m,m < H.next->H2.obj m=H.obj m:=fun m hm=>by rw [hv.ob m (by rw [GH.a0a];omega),GH.a0b,if_neg (by omega)]
  have n2:=hv.nx
  rw [GH.a0a] at n2
  refine AW.seq cc ?_
  simp [hv.plain.all]
  rcases id hv.is with ⟨q1,rfl⟩ | ⟨n',g,q1,q2,rfl,q4,q5⟩
  ·have hW0:W=[]:=by simpa using q1
   have hfi0:natI ((List.range n).filter M)=[]:=by rw [<- hfin,hW0];exact List.Perm.eq_nil (a2r [])
   have hs0:=c8v H2
   refine ⟨by simp [LV.nb],EC.of hs0 (fun v H3 hR=>?_) (fun v H3 hR=>by obtain ⟨⟨_,e⟩,_⟩:=hR;cases e)⟩
   obtain ⟨_,rfl⟩:=hR
   simp
   refine AW.ev cc ?_
   simp [hfi0]
   exact fun hz=>⟨_,hz.drop (by omega),⟨.inl ⟨rfl,rfl⟩,by omega,o2⟩⟩
  ·rw [a7p] at q4
   rw [GH.a0a] at q1
   have hs:=d6l W.toArray (by simpa using hWl) n' H2 g (by simpa using q4)
   have hsz:W.toArray.size=W.length:=by simp
   rw [hsz] at hs
   have hWm:(W.map rI).length=W.length:=by simp
   rw [hWm]
   refine ⟨by simp [LV.nb];omega,EC.of hs (fun v H3 hR=>?_) (fun v H3 hR=>by obtain ⟨⟨_,e⟩,_⟩:=hR;cases e)⟩
   obtain ⟨_,hE⟩:=hR
   rw [hE]
   have hso:(insertionSort ltI W.toArray 0 W.length).toList=natI ((List.range n).filter M):=hfin
   rw [hso]
   simp
   obtain ⟨F,hF⟩:∃ F,natI ((List.range n).filter M)=F:=⟨_,rfl⟩
   have hFl:F.length=W.length:=by rw [<- hF,<- hfin];exact (a2r W).length_eq
   rw [hF]
   refine AW.ev cc ?_
   simp
   have o3:∀ m,m < H.next->(H2.set n' (.vec 3 g 1 (F.map lvI) false)).obj m=H.obj m:=fun m hm=>by rw [GH.a0f,if_neg (by omega)];exact o2 m hm
   refine fun hz=>⟨_,hz.drop (by rw [GH.a0l];omega),by rw [GH.a0l];exact q2,⟨.inr ⟨n',g,by omega,by rw [GH.a0l];exact q2,by rw [List.length_map,hFl],by rw [GH.a0n,a7p],fun e=>q5 ?_⟩,by rw [GH.a0l];omega,o3⟩⟩
   have:F.length=0:=by have:=congrArg List.length e;simpa using this
   exact List.eq_nil_of_length_eq_zero (by rw [List.length_map];omega)
theorem d8v (p:Prog) (hstr:∀ s ∈ p.srcs ++ a0d p,a2b s) (hp:formed p) (hs1:0 < p.srcs.length) (hs12:p.srcs.length<=12) (g:Good p) (d:Nat) (hd:d < p.defs.length) (H:GH) :
  a0j prog 122 [lv (a0h p),lvI d] H fun ce H'=>(∃ l0:List Int,ce=.ret (.tup [sl (l0.map rI),sl ((natI ((List.range p.defs.length).filter (pathB p d))).map rI),lvI 0]))/\H'=H:=by
 have cc:=a4i (r:=none) (f:=122) (p:=kds [2] [7,10] [31])
 have ccR:∀ l,(cxF (some l) 122 (kds [2] [7,10] [31])).ok prog:=fun l=>a4i
 refine a0j.a3a (a4i (r:=none) (f:=122) (p:=kds [2] [7,10] [31])) func122 rfl call122 (by rw [ntmps122];simp) rfl fun hf hw=>?_
 have hlk:=d5a p hstr hp d hd H
 simp [a0h] at hlk
 simp [ntmps122,results122,a0h] at hf |-
 refine AW.seq cc ?_
 simp
 refine AW.seq cc ?_
 simp
 refine EC.of hlk (fun v H1 hR=>?_) (fun v H1 hR=>by obtain ⟨⟨_,q,_⟩,_⟩:=hR;cases q)
 obtain ⟨⟨sn,q,hsnl,hrefs,hsn,m1,m2,m3,ah,nd,hsco⟩,hw1,hn1,ho1⟩:=hR
 cases q
 simp [GH.a0b,GH.a0a,GH.a1v]
 refine ⟨by omega,?_⟩
 obtain ⟨H2,hH2⟩:∃ H2,H1.add (.box [.gp sn 0])=H2:=⟨_,rfl⟩
 have e2:H2.next=H1.next+1:=by rw [<- hH2];rfl
 have l2:∀ m,m < H1.next->H2.obj m=H1.obj m:=fun m hm=>by rw [<- hH2,GH.a0b,if_neg (by omega)]
 have b7:H2.obj H1.next=some (.box [.gp sn 0]):=by rw [<- hH2,GH.a0b,if_pos rfl]
 rw [hH2]
 refine AW.nbZ (fun hw2=>?_)
 simp only at hw2
 refine AW.seq cc ?_
 simp
 refine AW.seq cc ?_
 simp [b7]
 have hs2:Sco H2 sn m1 m2 m3 p.srcs (a0d p) ah nd:=hsco.keep hw1 l2
 have hre:=b4d p hrefs sn m1 m2 m3 ah nd d hd H2 hs2
 simp [a0h] at hre
 refine ⟨by omega,EC.of hre (fun v G2 hR=>?_) (fun v G2 hR=>by cases hR.1)⟩
 obtain ⟨q,er,hE,hmr⟩:=hR
 cases q
 rw [hE]
 clear hE
 simp
 obtain ⟨H3,hH3⟩:∃ H3,H2.add (.map er)=H3:=⟨_,rfl⟩
 have e3:H3.next=H1.next+2:=by rw [<- hH3,GH.a0a,e2]
 have l3:∀ m,m < H2.next->H3.obj m=H2.obj m:=fun m hm=>by rw [<- hH3,GH.a0b,if_neg (by omega)]
 have br:H3.obj (H1.next+1)=some (.map er):=by rw [<- hH3,GH.a0b,e2,if_pos rfl]
 rw [hH3,e2]
 refine AW.seq cc ?_
 simp [GH.a0b,GH.a0a]
 refine ⟨by omega,?_⟩
 obtain ⟨H4,hH4⟩:∃ H4,((H3.add (.map [])).add (.box [.d (.k (.map none))])).set (H3.next+1) (.box [.gm H3.next])=H4:=⟨_,rfl⟩
 have e4:H4.next=H1.next+4:=by rw [<- hH4,GH.a0l,GH.a0a,GH.a0a,e3]
 have l4:∀ m,m < H3.next->H4.obj m=H3.obj m:=fun m hm=>by rw [<- hH4,GH.a0f,if_neg (by omega),GH.a0b,if_neg (by rw [GH.a0a];omega),GH.a0b,if_neg (by omega)]
 have bm:H4.obj (H1.next+2)=some (.map []):=by rw [<- hH4,GH.a0f,if_neg (by omega),GH.a0b,if_neg (by rw [GH.a0a];omega),GH.a0b,if_pos (by omega)]
 have b10:H4.obj (H1.next+3)=some (.box [.gm (H1.next+2)]):=by rw [<- hH4,e3,GH.a0f,if_pos rfl]
 rw [hH4]
 clear hH4
 have hRd:reachB p d=pathB p d:=rfl
 rw [hRd] at hmr
 have hbl:∀ k,pathB p d k=true->k < p.defs.length:=fun k hk=>e2x (by simpa [pathB] using hk)
 have hso:=c6s (m:=H1.next+1) (n:=p.defs.length) (H:=H4) (by have:=g.n6;omega) hmr hbl (by rw [l4 _ (by omega)];exact br)
 obtain ⟨L,hL⟩:∃ L,(List.range p.defs.length).filter (pathB p d)=L:=⟨_,rfl⟩
 rw [hL] at hso
 refine AW.seq cc ?_
 simp
 refine ⟨by omega,EC.of hso (fun v G2 hR=>?_) (fun v G2 hR=>by obtain ⟨_,q,_⟩:=hR;cases q)⟩
 obtain ⟨x,q,hv⟩:=hR
 cases q
 simp [hv.plain.all]
 have hLl:L.length<=6:=by rw [<- hL];exact Nat.le_trans (List.length_filter_le _ _) (by simp;exact g.n6)
 refine APK.appV (ys:=[rI (d:Nat)]) tyE94 rfl tyE3 (by simp) (x:=v) (by simp) hv (by simp [a9g,rowsOf,rI]) (by simp) (d5j _) (fun r hr=>by simp only [List.mem_singleton] at hr;subst hr;rfl) (by simp [natI];omega) (by simp) fun x' H5 h5 hn5 _=>?_
 obtain ⟨ks,hks⟩:∃ ks,L ++ [d]=ks:=⟨_,rfl⟩
 have hrows:(natI L).map rI ++ [rI (d:Nat)]=(natI ks).map rI:=by rw [<- hks];simp [natI]
 have hksl:ks.length<=7:=by rw [<- hks];simp;omega
 have hksb:∀ k ∈ ks,k < p.defs.length:=fun k hk=>by
  rw [<- hks] at hk
  rcases List.mem_append.1 hk with q | q
  ·rw [<- hL] at q;exact List.mem_range.1 (List.mem_filter.1 q).1
  ·simp at q;omega
 rw [hrows] at h5
 have h5nx:=h5.nx
 have h5ob:=h5.ob
 rcases id h5.is with ⟨q1,_⟩ | ⟨n',gg,q1,q2,rfl,q4,_⟩
 ·exfalso
  have:ks.length=0:=by have:=congrArg List.length q1;simpa [natI] using this
  rw [<- hks] at this;simp at this
 rw [a7p] at q4
 have hrl:((natI ks).map rI).length=ks.length:=by simp [natI]
 rw [hrl]
 simp
 obtain ⟨N0,hN0⟩:∃ N0,H5.next=N0:=⟨_,rfl⟩
 have hs5:Sco H5 sn m1 m2 m3 p.srcs (a0d p) ah nd:=hs2.keep hw2 fun m hm=>by rw [h5ob m (by omega),l4 m (by omega),l3 m hm]
 have g7:H5.obj H1.next=some (.box [.gp sn 0]):=by rw [h5ob _ (by omega),l4 _ (by omega),l3 _ (by omega)];exact b7
 have gr:H5.obj (H1.next+1)=some (.map er):=by rw [h5ob _ (by omega),l4 _ (by omega)];exact br
 have gm:H5.obj (H1.next+2)=some (.map []):=by rw [h5ob _ (by omega)];exact bm
 have g10:H5.obj (H1.next+3)=some (.box [.gm (H1.next+2)]):=by rw [h5ob _ (by omega)];exact b10
 have gl:∀ m,m < H.next->H5.obj m=H.obj m:=fun m hm=>by rw [h5ob m (by omega),l4 m (by omega),l3 m (by omega),l2 m (by omega)];exact ho1 m hm
 refine AW.nbZ (fun hw5=>?_)
 simp only at hw5
 refine AW.f5g cc (fun a:Nat × List (Value × LV) × GH × List Nat=>⟨[(2,.ip ((a0h p).map .d) 0),(7,.gp H1.next 0),(9,.gm (H1.next+1)),(10,.gp (H1.next+3) 0),(31,.vs n' gg 1 0 ks.length),(32,lvI ks.length),(33,lvI a.1)],[],a.2.2.1⟩) (fun a=>a.2.2.2.map .mark) (fun a=>ks.length - a.1)
  (fun a=>a.1<=ks.length/\(∃ M,MapB a.2.1 M/\∀ k,M k=true->k < p.srcs.length)/\N0<=a.2.2.1.next/\a.2.2.1.obj (H1.next+2)=some (.map a.2.1)/\(∀ m,m < N0->m ≠ H1.next+2->a.2.2.1.obj m=H5.obj m)/\a.2.2.2.Nodup/\∀ n ∈ a.2.2.2,N0<=n/\n < a.2.2.1.next/\a.2.2.1.obj n=some .dfr)
  (0,[],H5,[]) ⟨⟨Nat.zero_le _,⟨_,MapB.nil,fun k hk=>by cases hk⟩,by simp only;omega,gm,fun m hm _=>rfl,by simp,by simp⟩,by simp [a0h,e3]⟩ ?_
 rintro ⟨i,es,G,ms⟩ ⟨hi,⟨M,hM,hMb⟩,c0,c1,c2,c3,c4⟩
 simp only at hi c0 c1 c2 c3 c4
 have gv:G.obj n'=some (.vec 3 gg 1 ((natI ks).map lvI) false):=by rw [c2 _ (by omega) (by omega)];exact q4
 have f7:G.obj H1.next=some (.box [.gp sn 0]):=by rw [c2 _ (by omega) (by omega)];exact g7
 have fr:G.obj (H1.next+1)=some (.map er):=by rw [c2 _ (by omega) (by omega)];exact gr
 have f10:G.obj (H1.next+3)=some (.box [.gm (H1.next+2)]):=by rw [c2 _ (by omega) (by omega)];exact g10
 have hwi:=wrap_succ (n:=9223372036854775807) (show i < 9223372036854775807 by omega)
 simp [a0h]
 refine ⟨fun h=>?_,fun h=>?_⟩
 ·obtain ⟨k,hk⟩:∃ k,ks[i]=k:=⟨_,rfl⟩
  have hkm:k ∈ ks:=hk ▸ List.getElem_mem h
  have hkn:=hksb k hkm
  have hgk:(natI ks)[i]?=some (k:Int):=by simp [natI,List.getElem?_eq_getElem h,hk]
  have hnod:=b0r p.defs[k].exp
  simp [a0c] at hnod
  simp [gv,hgk,hkn,List.getElem?_eq_getElem hkn,rDef,a0c]
  refine ⟨h,EC.afun hnod ?_⟩
  simp
  refine AW.at (c:=cxF none 122 (kds [2] [7,10] [31])) ⟨[(2,.ip ((a0h p).map .d) 0),(7,.gp H1.next 0),(9,.gm (H1.next+1)),(10,.gp (H1.next+3) 0),(31,.vs n' gg 1 0 ks.length),(32,lvI ks.length),(33,lvI i),(43,a4z p.defs[k].exp)],[],G⟩ (by simp [a0h,a4z,LV.only,a0c]) ?_
  refine AW.nbZ fun hz2=>?_
  simp only [LS.s_mk] at hz2
  refine AWp.rangeFunc rfl rfl (f:=164) (first:=[]) (cap:=[.ip ((rExp p.defs[k].exp).map .d) 0]) (by simp [a4z]) (by simp [a4z])
   [(2,.ip ((a0h p).map .d) 0),(7,.gp H1.next 0),(9,.gm (H1.next+1)),(10,.gp (H1.next+3) 0)] (by simp [allL]) (by simp [allL,LV.nb,nbs];omega) (by simp [nbs,LV.nb]) ?_
  simp only [LS.s_mk,List.nil_append,List.singleton_append]
  generalize hx:LP.mk _ _ _ _ _ _ _=x
  have hxf:x.f=122:=by rw [<- hx]
  have hxd:x.d=G.next:=by rw [<- hx]
  have hxe:∀ t,(x.env t).nb (G.next+2):=by
   rw [<- hx]
   intro t
   refine c5v ?_ t
   simp [allL,LV.nb,nbs];omega
  obtain ⟨E,hE⟩:∃ E,p.defs[k].exp=E:=⟨_,rfl⟩
  rw [hE]
  obtain ⟨J,hJ⟩:∃ J:Nat->GH->Prop,J=fun (_:Nat) H'=>∃ es' M',H'.obj (G.next+1)=some (x.go .ready none)/\H'.obj G.next=some .dfr/\(∀ m,m < G.next->m ≠ H1.next+2->H'.obj m=G.obj m)/\H'.obj (H1.next+2)=some (.map es')/\MapB es' M'/\∀ k,M' k=true->k < p.srcs.length:=⟨_,rfl⟩
  have hI:Iter prog (G.next+1) (G.next+2) (a7i E) J (fun _=>False) (fun _ _=>False):=by
   refine ⟨fun {i Hq Hr} hj hag _=>?_,fun h=>h.elim,fun h=>h.elim,fun {i Hq} hj m o hm ho=>?_,fun h=>h.elim,fun h=>h.elim,?_⟩
   ·rw [hJ] at hj |-
    obtain ⟨es',M',q1,q2,q3,q4,q5,q6⟩:=hj
    exact ⟨es',M',by rw [hag _ (by omega)];exact q1,by rw [hag _ (by omega)];exact q2,fun m hm hne=>by rw [hag _ (by omega)];exact q3 m hm hne,by rw [hag _ (by omega)];exact q4,q5,q6⟩
   ·rw [hJ] at hj
    obtain ⟨es',M',q1,q2,q3,q4,q5,q6⟩:=hj
    by_cases e1:m=G.next+1
    ·subst e1;rw [q1] at ho;cases ho
     exact ⟨by rw [hxd];omega,hxe⟩
    ·by_cases e2:m=G.next
     ·subst e2;rw [q2] at ho;cases ho;trivial
     ·by_cases e3:m=H1.next+2
      ·subst e3;rw [q4] at ho;cases ho;exact q5.nb _
      ·rw [q3 m (by omega) e3] at ho
       exact GO.a3g (by omega) (hz2.nb m o ho)
   ·intro j Ga r hr hN hz1 hj
    rw [hJ] at hj
    obtain ⟨es',M',q1,q2,q3,q4,q5,q6⟩:=hj
    obtain ⟨e,he,rfl⟩:∃ e,(allE E)[j]?=some e/\r=lv (rExp e):=by
     simp only [a7i,List.getElem?_map,Option.map_eq_some_iff] at hr
     obtain ⟨e,h1,h2⟩:=hr
     exact ⟨e,h1,h2.symm⟩
    refine a2v.ofN (c:=fun l=>cxF (some l) 122 (kds [2] [7,10] [31])) ccR (fun l=>by simp [hxf]) q1 ⟨_,by rw [hxf];exact func122⟩ (by rw [<- hx];rfl) (by rw [<- hx];simp) fun hz l=>?_
    have xa:=(congrArg LP.asn hx).symm
    have xb:=(congrArg LP.body hx).symm
    have xe:=(congrArg LP.env hx).symm
    have xp:=(congrArg LP.ps hx).symm
    have xn:=(congrArg LP.nt hx).symm
    dsimp only at xa xb xe xp xn
    rw [xa,xb,xe,xp,xn]
    clear xa xb xe xp xn hx
    simp [a0c,putAll]
    refine ⟨q1,?_⟩
    generalize hob:x.go .busy none=ob
    have hsame:(Ga.set (G.next+1) ob).set (G.next+1) (x.go .ready none)=Ga:=by rw [GH.a2n,GH.a6g q1]
    have hcc:∀ m,m < G.next->(Ga.set (G.next+1) ob).obj m=Ga.obj m:=fun m hm=>by rw [GH.a0f,if_neg (by omega)]
    refine AW.ev (ccR l) ?_
    simp
    refine ⟨fun hop=>?_,fun _ hz3=>⟨⟨.busy,none,by rw [GH.a0n,hob]⟩,Ga,by rw [hsame];exact hz1.drop (Nat.le_refl _),GH.same.refl,by rw [hJ];exact ⟨es',M',q1,q2,q3,q4,q5,q6⟩⟩⟩
    obtain ⟨Gb,hGb⟩:∃ Gb,Ga.set (G.next+1) ob=Gb:=⟨_,rfl⟩
    rw [hGb] at hcc
    rw [hGb]
    have k0:Gb.obj sn=some (scp [.gm m1,.gm m2,.gm m3] ah nd):=by
     have:=hw2.lt hs2.sc
     rw [hcc _ (by omega),q3 _ (by omega) (by omega),c2 _ (by omega) (by omega)];exact hs5.sc
    have k1:Gb.obj m1=some (.map (a3e p.srcs 0)):=by
     have:=hw2.lt hs2.o1
     rw [hcc _ (by omega),q3 _ (by omega) (by omega),c2 _ (by omega) (by omega)];exact hs5.o1
    have k7:Gb.obj H1.next=some (.box [.gp sn 0]):=by rw [hcc _ (by omega),q3 _ (by omega) (by omega)];exact f7
    have k10:Gb.obj (H1.next+3)=some (.box [.gm (H1.next+2)]):=by rw [hcc _ (by omega),q3 _ (by omega) (by omega)];exact f10
    have km:Gb.obj (H1.next+2)=some (.map es'):=by rw [hcc _ (by omega)];exact q4
    have hkey:=eq_true q5.key
    obtain ⟨kn,hkn,hknl⟩:∃ kn:Nat,numD p.srcs e.name=(kn:Int)/\kn < p.srcs.length:=by
     have h1:=b9l p.srcs e.name
     unfold numD
     split
     ·exact ⟨0,rfl,hs1⟩
     ·exact ⟨(idx p.srcs e.name).toNat,by omega,by omega⟩
    refine AW.draw (ccR l) [] (.q 6<|.q 0<|.q 1<|.q 2<|.q 3<|.q 4<|.q 5<|.q 7<|.q 8<|.f<|.one 9<|.done) (by kernel_rfl) ?_
    simp [k0,k1,k7,k10,km,scp,b2e,a6u,hkn,hkey]
    have hputm:=q5.put kn
    have hcm:∀ X,(Gb.set (H1.next+2) X).set (G.next+1) (x.go .ready none)=Ga.set (H1.next+2) X:=fun X=>by
     rw [<- hGb,GH.b6q (show G.next+1 ≠ H1.next+2 by omega),GH.a2n]
     exact GH.a6g (by rw [GH.a0f,if_neg (by omega)];exact q1)
    intro hz3
    refine ⟨⟨.busy,none,by rw [GH.a0f,if_neg (by omega),<- hGb,GH.a0n,hob]⟩,Ga.set (H1.next+2) (.map (mput (.int .i64 (kn:Int)) (.d (.k (.bool true))) es')),?_,⟨rfl,fun m hm=>by rw [GH.a0f,if_neg (by omega)]⟩,?_⟩
    ·rw [hcm];exact (hz1.set (o:=.map (mput (.int .i64 (kn:Int)) (.d (.k (.bool true))) es')) (by omega) (hputm.nb _)).drop (by rw [GH.a0l];exact Nat.le_refl _)
    ·rw [hJ]
     refine ⟨_,_,by rw [GH.a0f,if_neg (by omega)];exact q1,by rw [GH.a0f,if_neg (by omega)];exact q2,fun m hm hne=>by rw [GH.a0f,if_neg hne];exact q3 m hm hne,GH.a0n,hputm,fun u hu=>?_⟩
     unfold a4q at hu
     split at hu
     ·omega
     ·exact q6 u hu
  have hj0:J 0 ((G.add .dfr).add (x.go .ready none)):=by
   rw [hJ]
   exact ⟨es,M,by rw [GH.a0b,GH.a0a,if_pos rfl],by rw [GH.a0b,GH.a0a,if_neg (by omega),GH.a0b,if_pos rfl],fun m hm _=>by rw [GH.a0b,GH.a0a,if_neg (by omega),GH.a0b,if_neg (by omega)],
    by rw [GH.a0b,GH.a0a,if_neg (by omega),GH.a0b,if_neg (by omega)];exact c1,hM,hMb⟩
  have hall:=b8l hI (by omega) ((G.add .dfr).add (x.go .ready none)) (by rw [GH.a0a,GH.a0a];omega) hj0
  refine hall.mono fun ce H6 hR=>?_
  obtain ⟨hs6,hR⟩:=hR
  cases ce with
  | pan x=>exact hR.elim
  | ret v =>
   rcases hR with hR | hR
   ·rw [hJ] at hR
    obtain ⟨es2,M2,q1,q2,q3,q4,q5,q6⟩:=hR
    refine ⟨.ready,none,q1,by simp,?_⟩
    simp [c8s,hxd]
    have hn6:H6.next=G.next+2:=by rw [hs6.next,GH.a0a,GH.a0a]
    refine NXD.go (i+1,es2,H6.set (G.next+1) (x.go .exhausted none),G.next :: ms) (by simp only;omega) ⟨h,⟨M2,q5,q6⟩,by simp only [GH.a0l];omega,by simp only;rw [GH.a0f,if_neg (by omega)];exact q4,fun m hm hne=>?_,?_,fun u hu=>?_⟩ (by simp [a0h,hwi])
    ·simp only
     rw [GH.a0f,if_neg (by omega),q3 _ (by omega) hne]
     exact c2 m hm hne
    ·simp only
     refine List.nodup_cons.2 ⟨fun hq=>?_,c3⟩
     have:=(c4 _ hq).2.1;omega
    ·simp only at hu |-
     rcases List.mem_cons.1 hu with rfl | hu
     ·exact ⟨by omega,by rw [GH.a0l];omega,by rw [GH.a0f,if_neg (by omega)];exact q2⟩
     ·have:=c4 u hu
      exact ⟨this.1,by rw [GH.a0l];omega,by rw [GH.a0f,if_neg (by omega),q3 _ (by omega) (by omega)];exact this.2.2⟩
   ·exact hR.elim
 ·have hso1:=b1x (m:=H1.next+2) (n:=p.srcs.length) (H:=G) hs12 hM hMb c1
  have hso2:=b1x (m:=H1.next+1) (n:=p.defs.length) (H:=G) (by have:=g.n6;omega) hmr hbl fr
  rw [hL] at hso2
  refine AW.ev cc ?_
  simp [f10,c1]
  refine ⟨by omega,EC.of hso1 (fun v G2 hR=>?_) (fun v G2 hR=>by cases hR.1)⟩
  obtain ⟨q,rfl⟩:=hR
  cases q
  simp
  refine ⟨by omega,EC.of hso2 (fun v G3 hR=>?_) (fun v G3 hR=>by cases hR.1)⟩
  obtain ⟨q,rfl⟩:=hR
  cases q
  simp
  intro hz
  rw [show ms.map AD.mark=ms.map AD.mark ++ [] from (List.append_nil (ms.map AD.mark)).symm]
  refine a6h ms G3 c3 (fun n hn=>(c4 n hn).2.2) ?_
  have hnot:∀ m,m < N0->m ∉ ms:=fun m hm q=>by have:=(c4 m q).1;omega
  simp
  exact ⟨a0m (by rw [a4u];omega) (fun m hm=>by rw [a4o _ _ _ (hnot _ (by omega)),c2 m (by omega) (by omega)];exact gl m hm) hw.none,⟨_,rfl⟩,by rw [hL]⟩
end Go.Aft
end
section
set_option maxRecDepth 20000
namespace Go.Aft
open Go.Proofs.Tryz
def rowN (l:List Nat):LV:=sl ((natI l).map rI)
def inE (ks:List Int) (F:Nat->List Nat):List (Value × LV):=esI ks fun k=>rowN (F k.toNat)
def a9b (D:List Nat):List (Value × LV):=esI (natI D) fun _=>.d (.k (.bool true))
theorem b3b {k:Nat} {l:List Nat}:(k:Int) ∈ natI l ↔ k ∈ l:=by
 unfold natI
 rw [List.mem_map]
 constructor
 ·rintro ⟨x,h1,h2⟩
  have:x=k:=by omega
  rw [<- this];exact h1
 ·exact fun h=>⟨k,h,rfl⟩
theorem d9z {l:List Nat} (h:l.Nodup):(natI l).Nodup:=by
 unfold natI
 rw [List.Nodup,List.pairwise_map]
 exact h.imp fun {a b} q e=>q (by omega)
theorem d7f (D:List Nat) (k:Nat):(a1c (.int .i64 (k:Int)) (a9b D)).getD (.d (.k (.bool false)))=.d (.k (.bool (D.contains k))):=by
 rw [a9b,a7k]
 by_cases h:k ∈ D
 ·rw [if_pos (b3b.2 h)];simp [h]
 ·rw [if_neg (fun q=>h (b3b.1 q))];simp [h]
theorem e9u (D:List Nat) (hn:D.Nodup) (k:Nat):mput (.int .i64 (k:Int)) (.d (.k (.bool true))) (a9b D)=a9b (if k ∈ D then D else D ++ [k]):=by
 rw [a9b,b3c _ _ _ _ (d9z hn),a9b]
 by_cases h:k ∈ D
 ·rw [if_pos (b3b.2 h),if_pos h]
  exact a7s fun j _=>by split <;> rfl
 ·rw [if_neg (fun q=>h (b3b.1 q)),if_neg h]
  rw [show natI (D ++ [k])=natI D ++ [(k:Int)] by simp [natI]]
  exact a7s fun j _=>by split <;> rfl
structure Grp (G:GH) (b11 md b5 mi:Nat) (n:Nat) (F:Nat->List Nat) (ks:List Int) (D:List Nat):Prop where
 o11:G.obj b11=some (.box [.gm md])
 od:G.obj md=some (.map (a9b D))
 o5:G.obj b5=some (.box [.gm mi])
 oi:G.obj mi=some (.map (inE ks F))
 all:∀ k:Nat,k < n->(k:Int) ∈ ks
theorem Grp.keep {G G':GH} {b11 md b5 mi n:Nat} {F:Nat->List Nat} {ks:List Int} {D:List Nat} (h:Grp G b11 md b5 mi n F ks D) (hw:nbH G) (ho:∀ m,m < G.next->G'.obj m=G.obj m):Grp G' b11 md b5 mi n F ks D :=
 ⟨by rw [ho _ (hw.lt h.o11)];exact h.o11,by rw [ho _ (hw.lt h.od)];exact h.od,by rw [ho _ (hw.lt h.o5)];exact h.o5,by rw [ho _ (hw.lt h.oi)];exact h.oi,h.all⟩
theorem e4j {G:GH} {b11 md b5 mi n:Nat} {F:Nat->List Nat} {ks:List Int} {D:List Nat} (h:Grp G b11 md b5 mi n F ks D) (d k:Nat) (hd:d < n) :
  a0j prog 124 [lvI k,.gp b11 0,.gp b5 0,.ip [lvI d] 0] G fun ce H'=>ce=.ret (.d (.k (.bool (!D.contains k && !(F d).contains k))))/\H'=G:=by
 have cc:=a0g (p:=kds [] [] [])
 refine a0j.a1j (a0g (p:=kds [] [] [])) func124 rfl call124 (by rw [ntmps124];simp) rfl fun hf hw=>?_
 have hg1:=d7f D k
 have hk1:=eq_true (a4y (natI D) fun _=>LV.d (.k (.bool true)))
 have hg2:(a1c (.int .i64 (d:Int)) (inE ks F)).getD (.d (.k (.slice none 0 0)))=rowN (F d):=by
  rw [inE,a7k,if_pos (h.all d hd)];rfl
 have hk2:=eq_true (a4y ks fun k=>rowN (F k.toNat))
 have hco:=b5w (natI (F d)) k
 simp at hco
 obtain ⟨o11,od,o5,oi,_⟩:=h
 have hde:a9b D=esI (natI D) fun _=>LV.d (.k (.bool true)):=rfl
 have hie:inE ks F=esI ks fun k=>rowN (F k.toNat):=rfl
 rw [<- hde] at hk1
 rw [<- hie] at hk2
 by_cases hkD:k ∈ D
 ·simp [hkD] at hg1
  simp [ntmps124,results124,o11,od,o5,oi,hg1,hk1,hkD]
  exact fun hz=>hz.drop (Nat.le_refl _)
 ·simp [hkD] at hg1
  simp [ntmps124,results124,o11,od,o5,oi,hg1,hk1,hkD,hg2,hk2,rowN,LV.nb]
  refine EC.afun hco ?_
  simp
  exact fun hz=>⟨hz.drop (Nat.le_refl _),by simp [hkD,b3b]⟩
theorem e9a (p:Prog) (hstr:∀ s ∈ p.srcs ++ a0d p,a2b s) (hp:formed p) (hs1:0 < p.srcs.length) (hs12:p.srcs.length<=12) (g:Good p) {G:GH} {b11 md b5 mi:Nat} {ks:List Int} {D:List Nat}
  (h:Grp G b11 md b5 mi p.defs.length (inM p.defs.length (pathB p)) ks D) (d:Nat) (hd:d < p.defs.length) :
  a0j prog 121 [lvI d,.ip ((a0h p).map .d) 0,.gp b11 0,.gp b5 0] G fun ce H'=>ce=.ret (.d (.k (.bool (a3v p.defs.length (pathB p) D d))))/\H'=G:=by
 have cc:=a0g (p:=kds [4] [] [])
 refine a0j.a1j (a0g (p:=kds [4] [] [])) func121 rfl call121 (by rw [ntmps121];simp) rfl fun hf hw=>?_
 have l1:=hw.lt h.o11
 have l5:=hw.lt h.o5
 have hre:=d8v p hstr hp hs1 hs12 g d hd G
 have hcf:=b6k (natI ((List.range p.defs.length).filter (pathB p d))) (fun z=>!D.contains z.toNat && !(inM p.defs.length (pathB p) d).contains z.toNat) 124 [.gp b11 0,.gp b5 0,.ip [lvI d] 0] G (by simp [nbs,LV.nb,l1,l5]) (fun z hz=>by
  obtain ⟨k,_,rfl⟩:=List.mem_map.1 hz
  have:=e4j h d k hd
  simpa using this)
 have hany:((natI ((List.range p.defs.length).filter (pathB p d))).any fun z=>!D.contains z.toNat && !(inM p.defs.length (pathB p) d).contains z.toNat)=((List.range p.defs.length).filter (pathB p d)).any fun k=>!D.contains k && !(inM p.defs.length (pathB p) d).contains k:=by
  unfold natI
  rw [List.any_map]
  rfl
 rw [hany] at hcf
 obtain ⟨c,hc⟩:∃ c,(((List.range p.defs.length).filter (pathB p d)).any fun k=>!D.contains k && !(inM p.defs.length (pathB p) d).contains k)=c:=⟨_,rfl⟩
 have hrm:a3v p.defs.length (pathB p) D d=(!D.contains d && !c):=by rw [a3v,hc]
 rw [hc] at hcf
 rw [hrm]
 have hg1:=d7f D d
 have hk1:=eq_true (a4y (natI D) fun _=>LV.d (.k (.bool true)))
 have hde:a9b D=esI (natI D) fun _=>LV.d (.k (.bool true)):=rfl
 rw [<- hde] at hk1
 obtain ⟨o11,od,o5,oi,_⟩:=h
 simp [a0h] at hre hcf
 simp [ntmps121,results121,a0h]
 refine EC.of hre (fun v G2 hR=>?_) (fun v G2 hR=>by obtain ⟨⟨_,q⟩,_⟩:=hR;cases q)
 obtain ⟨⟨l0,q⟩,rfl⟩:=hR
 cases q
 by_cases hdD:d ∈ D
 ·simp [hdD] at hg1
  simp [o11,od,hg1,hk1,hdD]
  exact fun hz=>hz.drop (Nat.le_refl _)
 ·simp [hdD] at hg1
  simp [o11,od,hg1,hk1,hdD]
  refine ⟨⟨l1,l5⟩,EC.of hcf (fun v G3 hR=>?_) (fun v G3 hR=>by cases hR.1)⟩
  obtain ⟨q,rfl⟩:=hR
  cases q
  simp
  exact fun hz=>⟨hz.drop (Nat.le_refl _),fun _=>hdD⟩
end Go.Aft
end
section
set_option maxRecDepth 20000
namespace Go.Aft
open Go.Proofs.Tryz
theorem c1f (a b:List Int):AFun prog 71 [sl (a.map rI),sl (b.map rI)] (.d (.k (.bool (decide (a=b))))):=by
 have cc:=a0g (p:=kds [] [] [])
 refine AFun.body (a0g (p:=kds [] [] [])) func71 rfl call71 (by rw [ntmps71];simp) rfl fun hf H=>?_
 simp [ntmps71,results71] at hf |-
 refine ⟨fun h=>?_,fun h=>?_⟩
 ·have:a ≠ b:=fun e=>h (by rw [e])
  simp [this]
 ·have hl:a.length=b.length:=by omega
  refine AW.a0w cc (fun i:Nat=>⟨[(0,sl (a.map rI)),(1,sl (b.map rI)),(5,lvI i)],[],H⟩) (fun i=>a.length - i) (fun i=>i<=a.length/\a.take i=b.take i) 0 ⟨⟨Nat.zero_le _,by simp⟩,by simp⟩ ?_
  rintro i ⟨hi,hk⟩
  simp
  refine ⟨fun h=>?_,fun h=>?_⟩
  ·have h2:i < b.length:=by omega
   obtain ⟨x,hx⟩:∃ x,a[i]=x:=⟨_,rfl⟩
   obtain ⟨y,hy⟩:∃ y,b[i]=y:=⟨_,rfl⟩
   have hw':=wrap_succ h hf.1.1
   have hta:a.take (i+1)=a.take i ++ [x]:=by rw [<- a0p h,hx]
   have htb:b.take (i+1)=b.take i ++ [y]:=by rw [<- a0p h2,hy]
   simp [h]
   refine AW.draw cc [] (.q 0<|.q 1<|.q 2<|.q 4<|.q 5<|.q 6<|.q 3<|.q 7<|.q 8<|.done) (by kernel_rfl) ?_
   simp [h,h2,List.getElem?_eq_getElem h,List.getElem?_eq_getElem h2,hx,hy,rI]
   refine ⟨fun q e=>?_,fun q=>?_⟩
   ·have:x=y:=by rw [<- hx,<- hy];simp only [e]
    exact q this
   ·exact NX.go (i+1) (Nat.sub_lt_sub_left h (Nat.lt_succ_self i)) ⟨h,by rw [hta,htb,hk,q]⟩ (by simp [hw'])
  ·have:i=a.length:=by omega
   subst this
   rw [List.take_length,hl,List.take_length] at hk
   simp [hk]
theorem e8m {a b:List Nat} (h:natI a=natI b):a=b:=by
 have:∀ (a b:List Nat),natI a=natI b->a=b:=fun a=>by
  induction a with
  | nil=>intro b h;cases b with
   | nil=>rfl
   | cons y b=>simp [natI] at h
  | cons x a ih=>intro b h;cases b with
   | nil=>simp [natI] at h
   | cons y b =>
    simp only [natI,List.map_cons,List.cons.injEq] at h
    rw [ih b h.2,show x=y by omega]
 exact this a b h
theorem b7z (a b:List (List Nat)):AFun prog 22 [sl (a.map rT),sl (b.map rT)] (.d (.k (.bool (decide (a=b))))):=by
 have cc:=a0g (p:=kds [] [] [])
 refine AFun.body (a0g (p:=kds [] [] [])) func22 rfl call22 (by rw [ntmps22];simp) rfl fun hf H=>?_
 simp [ntmps22,results22] at hf |-
 refine ⟨fun h=>?_,fun h=>?_⟩
 ·have:a ≠ b:=fun e=>h (by rw [e])
  simp [this]
 ·have hl:a.length=b.length:=by omega
  refine AW.a0w cc (fun i:Nat=>⟨[(0,sl (a.map rT)),(1,sl (b.map rT)),(5,lvI i)],[],H⟩) (fun i=>a.length - i) (fun i=>i<=a.length/\a.take i=b.take i) 0 ⟨⟨Nat.zero_le _,by simp⟩,by simp⟩ ?_
  rintro i ⟨hi,hk⟩
  simp
  refine ⟨fun h=>?_,fun h=>?_⟩
  ·have h2:i < b.length:=by omega
   obtain ⟨x,hx⟩:∃ x,a[i]=x:=⟨_,rfl⟩
   obtain ⟨y,hy⟩:∃ y,b[i]=y:=⟨_,rfl⟩
   have hw':=wrap_succ h hf.1.1
   have hta:a.take (i+1)=a.take i ++ [x]:=by rw [<- a0p h,hx]
   have htb:b.take (i+1)=b.take i ++ [y]:=by rw [<- a0p h2,hy]
   have hs:=c1f (natI x) (natI y)
   have hnm:∀ z:List Nat,(natI z).map rI=z.map fun k:Nat=>rI k:=fun z=>by unfold natI;rw [List.map_map];rfl
   rw [hnm,hnm] at hs
   have hxy:(natI x=natI y)=(x=y):=propext ⟨e8m,fun e=>by rw [e]⟩
   simp only [hxy] at hs
   simp [h]
   refine AW.draw cc [(8,.n)] (.q 0<|.q 1<|.q 2<|.q 4<|.q 5<|.q 6<|.q 3<|.q 7<|.q 8<|.q 9<|.done) (by kernel_rfl) ?_
   simp [h,h2,List.getElem?_eq_getElem h,List.getElem?_eq_getElem h2,hx,hy,rT]
   refine FC.afun hs ?_
   simp
   refine ⟨fun q e=>?_,fun q=>?_⟩
   ·have:x=y:=by rw [<- hx,<- hy];simp only [e]
    exact q this
   ·exact NX.go (i+1) (Nat.sub_lt_sub_left h (Nat.lt_succ_self i)) ⟨h,by rw [hta,htb,hk,q]⟩ (by simp [hw'])
  ·have:i=a.length:=by omega
   subst this
   rw [List.take_length,hl,List.take_length] at hk
   simp [hk]
end Go.Aft
end
