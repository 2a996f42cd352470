import Derived.Test.YthinedikejlgmaaGreatA39
import Derived.Test.YthinedikejlgmaaGreatA34
import Derived.Test.YthinedikejlgmaaGreatA37
set_option linter.all false
section
set_option maxRecDepth 20000
namespace Go.Aft
open Go.Proofs.Tryz
theorem e7u {n:Nat} {R:Nat->Nat->Bool} (ht:∀ i j k,R i j=true->R j k=true->R i k=true) {r:List Nat} (hr:r ∈ a2s n R) {k:Nat} (hk:k ∈ r):R k k=true/\inM n R k=r:=by
 simp only [a2s,List.mem_map,List.mem_filter,Bool.and_eq_true] at hr
 obtain ⟨i,⟨_,hi,_⟩,rfl⟩:=hr
 have h2:R i k=true/\R k i=true:=by
  rcases (a0z.1 hk).2 with rfl | h
  ·exact ⟨hi,hi⟩
  ·exact h
 have hkk:R k k=true:=ht _ _ _ h2.2 h2.1
 refine ⟨hkk,?_⟩
 rw [inM,if_pos hkk]
 unfold ringAt
 refine List.filter_congr fun j _=>?_
 rw [Bool.eq_iff_iff]
 simp only [Bool.or_eq_true,beq_iff_eq,Bool.and_eq_true]
 constructor
 ·rintro (rfl | ⟨h3,h4⟩)
  ·exact .inr h2
  ·exact .inr ⟨ht _ _ _ h2.1 h3,ht _ _ _ h4 h2.2⟩
 ·rintro (rfl | ⟨h3,h4⟩)
  ·exact .inr ⟨h2.2,h2.1⟩
  ·exact .inr ⟨ht _ _ _ h2.2 h3,ht _ _ _ h4 h2.1⟩
theorem f1m {F:Nat->List Nat} {ks:List Int} (hn:ks.Nodup) (k:Nat):mput (.int .i64 (k:Int)) (rowN (F k)) (inE ks F)=inE (if (k:Int) ∈ ks then ks else ks ++ [(k:Int)]) F:=by
 rw [inE,b3c _ _ _ _ hn,inE]
 refine a7s fun j _=>?_
 by_cases e:j=(k:Int)
 ·rw [if_pos e,e];rfl
 ·rw [if_neg e]
theorem f1n {F:Nat->List Nat} (ks:List Int) (k:Nat):a1c (.int .i64 (k:Int)) (inE ks F)=if (k:Int) ∈ ks then some (rowN (F k)) else none:=by
 rw [inE,a7k];rfl
theorem d6n {ks:List Int} (hn:ks.Nodup) (k:Int):(if k ∈ ks then ks else ks ++ [k]).Nodup:=by
 split
 ·exact hn
 ·rename_i q
  rw [List.nodup_append]
  exact ⟨hn,by simp,fun a ha b hb=>by simp at hb;subst hb;intro z;subst z;exact q ha⟩
theorem d6o {ks:List Int} {k x:Int}:x ∈ (if k ∈ ks then ks else ks ++ [k]) ↔ x ∈ ks \/ x=k:=by
 split
 ·rename_i q
  exact ⟨.inl,fun h=>by rcases h with h | rfl;exact h;exact q⟩
 ·simp
theorem b8v (p:Prog) (hstr:∀ s ∈ p.srcs ++ a0d p,a2b s) (hp:formed p) (hs1:0 < p.srcs.length) (hs12:p.srcs.length<=12) (g:Good p) (H:GH) :
  a0j prog 65 [lv (a0h p)] H fun ce H'=>ce=.ret (sl ((b0c p.defs.length (pathB p)).map rT))/\H'=H:=by
 have cc:=a0g (p:=kds [1] [5,11] [])
 refine a0j.a3a (a0g (p:=kds [1] [5,11] [])) func65 rfl call65 (by rw [ntmps65];simp) rfl fun hf hw=>?_
 have hri:=d8u p hstr hp g H
 have hg1:=fun {G:GH} {b11 md b5 mi:Nat} {ks:List Int} {D:List Nat} (h:Grp G b11 md b5 mi p.defs.length (inM p.defs.length (pathB p)) ks D) (d:Nat) (hd:d < p.defs.length)=>e9a p hstr hp hs1 hs12 g h d hd
 have ht:∀ i j k,pathB p i j=true->pathB p j k=true->pathB p i k=true:=fun i j k h1 h2=>by
  simp only [pathB,decide_eq_true_eq] at h1 h2 |-;exact h1.trans h2
 have hlaw:=fun {k:Nat} (hk:k < p.defs.length)=>b7o (n:=p.defs.length) ht hk
 obtain ⟨n,hn⟩:∃ n,p.defs.length=n:=⟨_,rfl⟩
 have hn6:n<=6:=hn ▸ g.n6
 obtain ⟨R,hR⟩:∃ R,pathB p=R:=⟨_,rfl⟩
 rw [hn,hR] at hri
 rw [hR] at ht hlaw hg1 |-
 rw [hn] at hlaw hg1
 rw [hn]
 obtain ⟨Rg,hRg⟩:∃ Rg,a2s n R=Rg:=⟨_,rfl⟩
 have hRl:Rg.length<=6:=by
  rw [<- hRg,a2s,List.length_map]
  exact Nat.le_trans (List.length_filter_le _ _) (by simp;omega)
 rw [hRg] at hri
 simp [a0h] at hri
 simp [ntmps65,results65,a0h] at hf |-
 refine AW.seq cc ?_
 simp
 refine AW.seq cc ?_
 simp
 refine EC.of hri (fun v G2 hR2=>?_) (fun v G2 hR2=>by cases hR2.1)
 obtain ⟨q,hE⟩:=hR2
 cases q
 rw [hE]
 clear hE
 simp
 refine AW.seq cc ?_
 simp [GH.a0b,GH.a0a]
 refine ⟨by omega,?_⟩
 obtain ⟨H1,hH1⟩:∃ H1,((H.add (GO.map [])).add (GO.box [LV.d (DV.k (Value.map none))])).set (H.next+1) (GO.box [LV.gm H.next])=H1:=⟨_,rfl⟩
 have n1:H1.next=H.next+2:=by rw [<- hH1];rfl
 have b1:H1.obj (H.next+1)=some (.box [.gm H.next]):=by rw [<- hH1,GH.a0n]
 have m1:H1.obj H.next=some (.map []):=by rw [<- hH1,GH.a0f,if_neg (by omega),GH.a0b,if_neg (by rw [GH.a0a];omega),GH.a0b,if_pos rfl]
 have o1:∀ m,m < H.next->H1.obj m=H.obj m:=fun m hm=>by rw [<- hH1,GH.a0f,if_neg (by omega),GH.a0b,if_neg (by rw [GH.a0a];omega),GH.a0b,if_neg (by omega)]
 rw [hH1]
 clear hH1
 obtain ⟨F,hF⟩:∃ F,inM n R=F:=⟨_,rfl⟩
 rw [hF] at hg1
 have hA:∀ ks,(H1.set H.next (.map (inE ks F))).obj (H.next+1)=some (.box [.gm H.next]):=fun ks=>by rw [GH.a0f,if_neg (by omega)];exact b1
 have hA0:H1.set H.next (.map (inE [] F))=H1:=GH.a6g (by rw [m1];rfl)
 have hset:∀ X Y,(H1.set H.next X).set H.next Y=H1.set H.next Y:=fun X Y=>GH.a2n
 refine AW.seq cc ?_
 simp
 refine AW.a0w cc (fun a:Nat × List Int=>⟨[(1,.ip ((a0h p).map .d) 0),(5,.gp (H.next+1) 0),(23,sl (Rg.map rT)),(24,lvI Rg.length),(25,lvI a.1)],[],H1.set H.next (.map (inE a.2 F))⟩) (fun a=>Rg.length - a.1)
  (fun a=>a.1<=Rg.length/\a.2.Nodup/\(∀ r ∈ Rg.take a.1,∀ k ∈ r,((k:Nat):Int) ∈ a.2)/\(∀ x ∈ a.2,∃ k:Nat,x=k/\k < n/\R k k=true)) (0,[]) ⟨⟨Nat.zero_le _,by simp,by simp,by simp⟩,by simp [a0h,hA0]⟩ ?_
 ·rintro ⟨i,ks⟩ ⟨hi,hkn,hka,hkb⟩
  simp only at hi hkn hka hkb
  have hwi:=wrap_succ (n:=9223372036854775807) (show i < 9223372036854775807 by omega)
  simp [a0h]
  refine ⟨fun h=>?_,fun h=>?_⟩
  ·obtain ⟨r,hr⟩:∃ r,Rg[i]=r:=⟨_,rfl⟩
   have hrm:r ∈ a2s n R:=by rw [hRg];exact hr ▸ List.getElem_mem h
   have hrl:r.length<=6:=by
    simp only [a2s,List.mem_map] at hrm
    obtain ⟨j,_,rfl⟩:=hrm
    exact Nat.le_trans (List.length_filter_le _ _) (by simp;omega)
   have htk:Rg.take (i+1)=Rg.take i ++ [r]:=by rw [<- a0p h,hr]
   simp [h,List.getElem?_eq_getElem h,hr,rT]
   refine AW.a0w cc (fun a:Nat × List Int=>⟨[(1,.ip ((a0h p).map .d) 0),(5,.gp (H.next+1) 0),(7,rowN r),(23,sl (Rg.map rT)),(24,lvI Rg.length),(25,lvI i),(29,rowN r),(30,lvI r.length),(31,lvI a.1)],[],H1.set H.next (.map (inE a.2 F))⟩) (fun a=>r.length - a.1)
    (fun a=>a.1<=r.length/\a.2.Nodup/\(∀ x ∈ ks,x ∈ a.2)/\(∀ k ∈ r.take a.1,((k:Nat):Int) ∈ a.2)/\(∀ x ∈ a.2,∃ k:Nat,x=k/\k < n/\R k k=true)) (0,ks) ⟨⟨Nat.zero_le _,hkn,fun x hx=>hx,by simp,hkb⟩,by simp [a0h,rowN,natI,rT]⟩ ?_
   rintro ⟨j,ks2⟩ ⟨hj,d1,d2,d3,d4⟩
   simp only at hj d1 d2 d3 d4
   have hwj:=wrap_succ (n:=9223372036854775807) (show j < 9223372036854775807 by omega)
   simp [rowN]
   refine ⟨fun h2=>?_,fun h2=>?_⟩
   ·have hj':j < r.length:=by simpa [natI] using h2
    obtain ⟨k,hk⟩:∃ k,r[j]=k:=⟨_,rfl⟩
    have hkr:k ∈ r:=hk ▸ List.getElem_mem hj'
    have htk2:r.take (j+1)=r.take j ++ [k]:=by rw [<- a0p hj',hk]
    have hgk:(natI r)[j]?=some (k:Int):=by simp [natI,List.getElem?_eq_getElem hj',hk]
    have hin:=e7u (n:=n) (R:=R) ht hrm hkr
    rw [hF] at hin
    have hput:=f1m (F:=F) d1 k
    rw [hin.2] at hput
    have hkey:=eq_true (a4y ks2 fun k=>rowN (F k.toNat))
    have hie:inE ks2 F=esI ks2 fun k=>rowN (F k.toNat):=rfl
    rw [<- hie] at hkey
    have hmo:∀ X,(H1.set H.next X).obj H.next=some X:=fun X=>GH.a0n
    have hkn2:k < n:=by
     simp only [a2s,List.mem_map] at hrm
     obtain ⟨i0,_,rfl⟩:=hrm
     exact (a0z.1 hkr).1
    have hput2:mput (.int .i64 (k:Int)) (.d (.sl ((natI r).map rI))) (inE ks2 F)=inE (if (k:Int) ∈ ks2 then ks2 else ks2 ++ [(k:Int)]) F:=hput
    simp [hj',hgk,rI,hA,hmo,hkey,hset]
    refine ⟨by simpa [natI] using hj',NX.go (j+1,if (k:Int) ∈ ks2 then ks2 else ks2 ++ [(k:Int)]) (by simp only;omega) ⟨hj',d6n d1 _,fun x hx=>d6o.2 (.inl (d2 x hx)),fun u hu=>?_,fun x hx=>?_⟩ (by simp [a0h,hwj,rowN,hput2])⟩
    ·simp only at hu |-
     rw [htk2,List.mem_append] at hu
     rcases hu with hu | hu
     ·exact d6o.2 (.inl (d3 u hu))
     ·simp at hu;rw [hu];exact d6o.2 (.inr rfl)
    ·simp only at hx
     rcases d6o.1 hx with hx | hx
     ·exact d4 x hx
     ·exact ⟨k,hx,hkn2,hin.1⟩
   ·have e1:j=r.length:=by
     have:¬ j < r.length:=by simpa [natI] using h2
     omega
    subst e1
    rw [List.take_length] at d3
    refine NX.go (i+1,ks2) (by simp only;omega) ⟨h,d1,fun r' hr' k hk=>?_,d4⟩ (by simp [a0h,hwi])
    simp only at hr' |-
    rw [htk,List.mem_append] at hr'
    rcases hr' with hr' | hr'
    ·exact d2 _ (hka r' hr' k hk)
    ·simp at hr';rw [hr'] at hk;exact d3 k hk
  ·have e1:i=Rg.length:=by omega
   subst e1
   rw [List.take_length] at hka
   have hksR:∀ k:Nat,k < n->R k k=true->((k:Nat):Int) ∈ ks:=fun k hk hkk=>by
    obtain ⟨r,hr,hkr⟩:=(hlaw (k:=k) hk).2 hkk
    rw [hRg] at hr
    exact hka r hr k hkr
   have hks0:∀ k:Nat,((k:Nat):Int) ∈ ks->R k k=true:=fun k hk=>by
    obtain ⟨k',h1,_,h3⟩:=hkb _ hk
    have:k'=k:=by omega
    rw [<- this];exact h3
   refine AW.seq cc ?_
   simp [a0h,hn]
   refine AW.a0w cc (fun a:Nat × List Int=>⟨[(1,.ip ((a0h p).map .d) 0),(5,.gp (H.next+1) 0),(42,lvI n),(43,lvI a.1)],[],H1.set H.next (.map (inE a.2 F))⟩) (fun a=>n - a.1)
    (fun a=>a.1<=n/\a.2.Nodup/\(∀ x ∈ ks,x ∈ a.2)/\(∀ k:Nat,k < a.1->(k:Int) ∈ a.2)/\(∀ k:Nat,a.1<=k->((k:Int) ∈ a.2 ↔ (k:Int) ∈ ks))) (0,ks) ⟨⟨Nat.zero_le _,hkn,fun x hx=>hx,fun k hk=>by simp only at hk;omega,fun k _=>Iff.rfl⟩,by simp [a0h]⟩ ?_
   rintro ⟨d,ks2⟩ ⟨hd,d1,d2,d3,d4⟩
   simp only at hd d1 d2 d3 d4
   have hwd:=wrap_succ (n:=9223372036854775807) (show d < 9223372036854775807 by omega)
   have hkey:=eq_true (a4y ks2 fun k=>rowN (F k.toNat))
   have hie:inE ks2 F=esI ks2 fun k=>rowN (F k.toNat):=rfl
   rw [<- hie] at hkey
   have hmo:∀ X,(H1.set H.next X).obj H.next=some X:=fun X=>GH.a0n
   have hget:=f1n (F:=F) ks2 d
   have hput:=f1m (F:=F) d1 d
   simp
   refine ⟨fun h=>?_,fun h=>?_⟩
   ·by_cases hdk:(d:Int) ∈ ks2
    ·rw [if_pos hdk] at hget
     obtain ⟨a,l,hal⟩:∃ a l,F d=a :: l:=by
      have:=a4n (n:=n) (R:=R) (d:=d) h
      rw [hF] at this
      cases q:F d with
      | nil=>rw [q] at this;cases this
      | cons a l=>exact ⟨a,l,rfl⟩
     have hro:rowN (F d)=.d (.sl (rI a :: (natI l).map rI)):=by rw [hal];rfl
     rw [hro] at hget
     simp [hA,hmo,hkey,hget]
     refine NX.go (d+1,ks2) (by simp only;omega) ⟨h,d1,d2,fun k hk=>?_,fun k hk=>d4 k (by simp only at hk;omega)⟩ (by simp [a0h,hwd])
     by_cases e:k=d
     ·rw [e];exact hdk
     ·exact d3 k (by simp only at hk;omega)
    ·rw [if_neg hdk] at hget
     have hRd:¬ R d d=true:=fun q=>hdk (d2 _ (hksR d h q))
     have hFd:F d=[d]:=by rw [<- hF,inM,if_neg hRd]
     rw [hFd,if_neg hdk] at hput
     have hput2:mput (.int .i64 (d:Int)) (.d (.sl [[.k (.int .i64 (d:Int))]])) (inE ks2 F)=inE (ks2 ++ [(d:Int)]) F:=hput
     simp [hA,hmo,hkey,hget]
     refine NX.go (d+1,ks2 ++ [(d:Int)]) (by simp only;omega) ⟨h,?_,fun x hx=>by simp only;rw [List.mem_append];exact .inl (d2 x hx),fun k hk=>?_,fun k hk=>?_⟩ (by simp [a0h,hwd,hput2,hset])
     ·have:=d6n d1 (d:Int)
      rw [if_neg hdk] at this;exact this
     ·simp only at hk |-
      rw [List.mem_append]
      by_cases e:k=d
      ·rw [e];exact .inr (by simp)
      ·exact .inl (d3 k (by omega))
     ·simp only at hk |-
      rw [List.mem_append]
      constructor
      ·rintro (q | q)
       ·exact (d4 k (by omega)).1 q
       ·simp at q;omega
      ·exact fun q=>.inl ((d4 k (by omega)).2 q)
   ·have edn:d=n:=by omega
    rw [edn] at d3
    clear d4 hget hput
    refine AW.seq cc ?_
    simp [GH.a0b,GH.a0a]
    refine ⟨by omega,?_⟩
    obtain ⟨B,hB⟩:∃ B,H1.set H.next (.map (inE ks2 F))=B:=⟨_,rfl⟩
    have eB:B.next=H.next+2:=by rw [<- hB,GH.a0l,n1]
    have Bi:B.obj H.next=some (.map (inE ks2 F)):=by rw [<- hB,GH.a0n]
    have B5:B.obj (H.next+1)=some (.box [.gm H.next]):=by rw [<- hB];exact hA ks2
    have Bl:∀ m,m < H.next->B.obj m=H.obj m:=fun m hm=>by rw [<- hB,GH.a0f,if_neg (by omega)];exact o1 m hm
    rw [hB]
    obtain ⟨H2,hH2⟩:∃ H2,((B.add (.map [])).add (.box [.d (.k (.map none))])).set (B.next+1) (.box [.gm B.next])=H2:=⟨_,rfl⟩
    have e2:H2.next=H.next+4:=by rw [<- hH2,GH.a0l,GH.a0a,GH.a0a,eB]
    have l2:∀ m,m < B.next->H2.obj m=B.obj m:=fun m hm=>by rw [<- hH2,GH.a0f,if_neg (by omega),GH.a0b,if_neg (by rw [GH.a0a];omega),GH.a0b,if_neg (by omega)]
    have bmd:H2.obj (H.next+2)=some (.map (a9b [])):=by rw [<- hH2,GH.a0f,if_neg (by omega),GH.a0b,if_neg (by rw [GH.a0a];omega),GH.a0b,if_pos (by omega)];rfl
    have b11:H2.obj (H.next+3)=some (.box [.gm (H.next+2)]):=by rw [<- hH2,eB,GH.a0f,if_pos rfl]
    rw [hH2]
    clear hH2
    refine AW.seq cc ?_
    simp [eB,e2]
    refine AW.seq cc ?_
    simp
    refine AW.seq cc ?_
    simp
    refine AW.a0w cc (fun a:List Nat × LV × GH=>⟨[(1,.ip ((a0h p).map .d) 0),(5,.gp (H.next+1) 0),(11,.gp (H.next+3) 0),(12,.fn (.func 121) [] [.ip ((a0h p).map .d) 0,.gp (H.next+3) 0,.gp (H.next+1) 0]),(13,a.2.1)],[],a.2.2⟩) (fun a=>n - a.1.length)
     (fun a=>a.1.Nodup/\(∀ x ∈ a.1,x < n)/\H.next+4<=a.2.2.next/\a.2.2.obj (H.next+2)=some (.map (a9b a.1))/\(∀ m,m < H.next+4->m ≠ H.next+2->a.2.2.obj m=H2.obj m)/\∃ outL f,n - a.1.length<=f/\outL ++ a2z n R f a.1=b0c n R/\outL.length<=a.1.length/\OwnX 94 1 (H.next+4) a.2.1 (outL.map rT) a.2.2)
     ([],.d (.k (.slice none 0 0)),H2) ⟨⟨by simp,by simp,by simp only;omega,bmd,fun m hm _=>rfl,[],n,by simp,rfl,by simp,by simpa using OwnX.nil (by omega)⟩,by simp [a0h]⟩ ?_
    rintro ⟨D,x,G⟩ ⟨c1,c2,c3,c4,c5,outL,f,c6,c7,c8,c9⟩
    simp only at c1 c2 c3 c4 c5 c6 c7 c8 c9
    have hgrp:Grp G (H.next+3) (H.next+2) (H.next+1) H.next n F ks2 D :=
     ⟨by rw [c5 _ (by omega) (by omega)];exact b11,c4,by rw [c5 _ (by omega) (by omega),l2 _ (by omega)];exact B5,by rw [c5 _ (by omega) (by omega),l2 _ (by omega)];exact Bi,d3⟩
    have hdl:(a9b D).length=D.length:=by simp [a9b,esI,natI]
    simp [hgrp.o11,hgrp.od,a0h,hn,hdl]
    refine ⟨fun h=>?_,fun h=>?_⟩
    ·refine AW.ev cc ?_
     simp [a0h,hn]
     refine AW.a0w cc (fun a:Nat=>⟨[(1,.ip ((a0h p).map .d) 0),(5,.gp (H.next+1) 0),(11,.gp (H.next+3) 0),(12,.fn (.func 121) [] [.ip ((a0h p).map .d) 0,.gp (H.next+3) 0,.gp (H.next+1) 0]),(13,x),(65,lvI n),(66,lvI a)],[],G⟩) (fun a=>n - a)
      (fun a=>a<=n/\∀ k,k < a->a3v n R D k=false) 0 ⟨⟨Nat.zero_le _,fun k hk=>by omega⟩,by simp [a0h,c9.only]⟩ ?_
     rintro e ⟨he,hnr⟩
     have hwe:=wrap_succ (n:=9223372036854775807) (show e < 9223372036854775807 by omega)
     simp
     refine ⟨fun h2=>?_,fun h2=>?_⟩
     ·have hre:=hg1 hgrp e h2
      simp [a0h] at hre
      simp [a0h]
      refine ⟨⟨by omega,by omega⟩,EC.of hre (fun v G3 hR3=>?_) (fun v G3 hR3=>by cases hR3.1)⟩
      obtain ⟨q,hE⟩:=hR3
      cases q
      rw [hE]
      clear hE
      have hgi:a1c (.int .i64 (e:Int)) (inE ks2 F)=some (rowN (F e)):=by rw [f1n,if_pos (d3 e h2)]
      have hki:=eq_true (a4y ks2 fun k=>rowN (F k.toNat))
      have hie:inE ks2 F=esI ks2 fun k=>rowN (F k.toNat):=rfl
      rw [<- hie] at hki
      obtain ⟨a,l,hal⟩:∃ a l,F e=a :: l:=by
       have:=a4n (n:=n) (R:=R) (d:=e) h2
       rw [hF] at this
       cases q:F e with
       | nil=>rw [q] at this;cases this
       | cons a l=>exact ⟨a,l,rfl⟩
      have hFl:(F e).length<=6:=by rw [<- hF];exact Nat.le_trans (f3j (by omega)) (by omega)
      have hcl:=e0s a (natI l) (by rw [hal] at hFl;simp [natI] at hFl |-;omega)
      have hrow:rowN (F e)=.d (.sl (rI a :: (natI l).map rI)):=by rw [hal];rfl
      simp at hcl
      cases hq:a3v n R D e with
      | false =>
       simp
       refine NX.go (e+1) (by omega) ⟨h2,fun k hk=>?_⟩ (by simp [a0h,c9.only,hwe])
       by_cases e1:k=e
       ·rw [e1];exact hq
       ·exact hnr k (by omega)
      | true =>
       simp [hgrp.o5,hgrp.oi,hgi,hki,hrow,c9.plain.all]
       refine EC.afun hcl ?_
       simp [c9.plain.all]
       refine APK.appX (H0:=⟨G.obj,H.next+4⟩) (ys:=[rT (F e)]) tyE44 rfl tyE94 (by simp) (x:=x) (by simp) c9 (by simp [rowsOf,rT,hal,natI]) (by simp) (f1b _) (fun r hr=>by simp only [List.mem_singleton] at hr;subst hr;rfl) (by simp;omega) (by simp) fun x' G6 h6 hn6 _=>?_
       simp only at hn6
       have h6o:∀ m,m < H.next+4->G6.obj m=G.obj m:=fun m hm=>h6.ob m hm
       have g5:G6.obj (H.next+1)=some (.box [.gm H.next]):=by rw [h6o _ (by omega)];exact hgrp.o5
       have gi:G6.obj H.next=some (.map (inE ks2 F)):=by rw [h6o _ (by omega)];exact hgrp.oi
       have g11:G6.obj (H.next+3)=some (.box [.gm (H.next+2)]):=by rw [h6o _ (by omega)];exact hgrp.o11
       have gd:G6.obj (H.next+2)=some (.map (a9b D)):=by rw [h6o _ (by omega)];exact c4
       have h7:OwnX 94 1 (H.next+4) x' ((outL ++ [F e]).map rT) G6:=by
        have:=OwnX.of (B:=⟨G.obj,H.next+4⟩) rfl h6
        rw [List.map_append];exact this
       have hset6:∀ X Y,(G6.set (H.next+2) X).set (H.next+2) Y=G6.set (H.next+2) Y:=fun X Y=>GH.a2n
       have hg60:G6.set (H.next+2) (.map (a9b D))=G6:=GH.a6g gd
       simp [h6.plain.all,g5,gi,hgi,hki,hrow]
       refine AW.a0w cc (fun a:Nat=>⟨[(1,.ip ((a0h p).map .d) 0),(5,.gp (H.next+1) 0),(11,.gp (H.next+3) 0),(12,.fn (.func 121) [] [.ip ((a0h p).map .d) 0,.gp (H.next+3) 0,.gp (H.next+1) 0]),(13,x'),(81,rowN (F e)),(82,lvI (F e).length),(83,lvI a)],[],G6.set (H.next+2) (.map (a9b (a2c D ((F e).take a))))⟩) (fun a=>(F e).length - a)
        (fun a=>a<=(F e).length) 0 ⟨Nat.zero_le _,by simp [a0h,h6.only,hrow,a2c,hg60,hal,natI,rowN]⟩ ?_
       intro j hj
       have hwj:=wrap_succ (n:=9223372036854775807) (show j < 9223372036854775807 by omega)
       simp [rowN]
       refine ⟨fun h3=>?_,fun h3=>?_⟩
       ·have hj':j < (F e).length:=by simpa [natI] using h3
        obtain ⟨k,hk⟩:∃ k,(F e)[j]=k:=⟨_,rfl⟩
        have htk2:(F e).take (j+1)=(F e).take j ++ [k]:=by rw [<- a0p hj',hk]
        have hgk:(natI (F e))[j]?=some (k:Int):=by simp [natI,List.getElem?_eq_getElem hj',hk]
        have hput:=e9u (a2c D ((F e).take j)) (a4w c1) k
        rw [<- d4d,<- htk2] at hput
        have hkd:=eq_true (a4y (natI (a2c D ((F e).take j))) fun _=>LV.d (.k (.bool true)))
        have hde:a9b (a2c D ((F e).take j))=esI (natI (a2c D ((F e).take j))) fun _=>LV.d (.k (.bool true)):=rfl
        rw [<- hde] at hkd
        have gg11:∀ X,(G6.set (H.next+2) X).obj (H.next+3)=some (.box [.gm (H.next+2)]):=fun X=>by rw [GH.a0f,if_neg (by omega)];exact g11
        have ggd:∀ X,(G6.set (H.next+2) X).obj (H.next+2)=some X:=fun X=>GH.a0n
        simp [hgk,rI,gg11,ggd,hkd,hput,hset6]
        exact ⟨by simpa [natI] using hj',NX.go (j+1) (by omega) hj' (by simp [a0h,h6.only,rowN,hwj])⟩
       ·have e1:j=(F e).length:=by
         have:¬ j < (F e).length:=by simpa [natI] using h3
         omega
        rw [e1,List.take_length]
        have heD:e ∉ D:=by
         unfold a3v at hq
         simp only [Bool.and_eq_true,Bool.not_eq_true'] at hq
         simpa using hq.1
        have hes:e ∈ F e:=by rw [<- hF];exact a4n h2
        have hlt:=b5g (l:=F e) hes heD
        have hfind:(List.range n).find? (a3v n R D)=some e:=by
         rw [List.find?_range_eq_some]
         exact ⟨hq,List.mem_range.2 h2,fun k hk=>by rw [hnr k hk];rfl⟩
        obtain ⟨f',rfl⟩:∃ f',f=f' + 1:=⟨f - 1,by omega⟩
        rw [a2z,if_pos h,hfind] at c7
        simp only at c7
        rw [hF] at c7
        refine NX.go (a2c D (F e),x',G6.set (H.next+2) (.map (a9b (a2c D (F e))))) (by simp only;omega) ⟨a4w c1,fun k hk=>?_,by simp only [GH.a0l];omega,GH.a0n,fun m hm hne=>by simp only;rw [GH.a0f,if_neg hne,h6o m hm];exact c5 m hm hne,outL ++ [F e],f',by simp only;omega,by rw [List.append_assoc];exact c7,by simp only [List.length_append,List.length_cons,List.length_nil];omega,h7.keep (by rw [GH.a0l];exact Nat.le_refl _) fun m hm _=>by rw [GH.a0f,if_neg (by omega)]⟩ (by simp [a0h,h6.only])
        simp only at hk
        rcases a2f.1 hk with hk | hk
        ·exact c2 k hk
        ·rw [<- hF] at hk;exact c2z h2 hk
     ·obtain ⟨e',he'⟩:=b4m ht c1 c2 h
      have h3:=List.find?_some he'
      have h4:=List.mem_range.1 (List.mem_of_find?_eq_some he')
      rw [hnr e' (by omega)] at h3
      cases h3
    ·have hgo:a2z n R f D=[]:=by
      cases f with
      | zero=>rfl
      | succ f=>rw [a2z,if_neg (by omega)]
     rw [hgo,List.append_nil] at c7
     refine AW.ev cc ?_
     simp [c9.plain.all,c9.fz,c7]
     exact fun _=>a0m (by omega) (fun m hm=>by rw [c5 m (by omega) (by omega),l2 m (by omega)];exact Bl m hm) hw.none
end Go.Aft
end
section
set_option maxRecDepth 20000
namespace Go.Aft
open Go.Proofs.Tryz
structure MapS (es:List (Value × LV)) (names:List Str) (f:Nat->LV):Prop where
 key:∀ (a:Value) (b:LV),(a,b) ∈ es->(KK.sc Sc.str).has a=true
 get:∀ name,0<=idx names name->a1c (.string name) es=some (f (idx names name).toNat)
def bagL (b:Bag):LV:=sl (b.map a0i)
structure Wld (H:GH) (n ms mn mv ma:Nat) (p:Prog) (W:World'):Prop where
 ob:H.obj n=some (.box [sl (p.srcs.map rS),sl (p.defs.map rDef),.gm ms,.gm mn,.vs mv 0 1 0 W.defs.length,.gm ma])
 os:∃ es,H.obj ms=some (.map es)/\MapS es p.srcs fun i=>bagL (W.srcs.getD i [])
 on:∃ es,H.obj mn=some (.map es)/\MapS es (a0d p) fun i=>lvI i
 ov:H.obj mv=some (.vec 30 0 1 (W.defs.map bagL) true)
 dl:W.defs.length=p.defs.length
abbrev a9a (ks:List Bag):LV:=sl (ks.map rBag)
theorem a1s {H:GH} (hz:nbH H):Drop H H H:=a0m (Nat.le_refl _) (fun _ _=>rfl) hz.none
theorem c6o {H:GH} {n ms mn mv ma:Nat} {p:Prog} {W:World'} (hW:Wld H n ms mn mv ma p W) (e:Exp) (ks:List Bag) (he:0<=idx p.srcs e.name) :
  a0j prog 185 [.gp n 0,lv (rExp e),a9a ks] H fun ce H'=>ce=.ret (bagL (W.srcs.getD (idx p.srcs e.name).toNat []))/\H'=H:=by
 have cc:=a0g (p:=kds [4] [] [])
 obtain ⟨ob,⟨es,os,hes⟩,on,ov,dl⟩:=hW
 refine a0j.a1j (a0g (p:=kds [4] [] [])) func185 rfl call185 (by rw [ntmps185];simp) rfl fun hf hw=>?_
 simp [ntmps185,results185,a0c]
 refine AW.draw cc [] (.q 0<|.q 1<|.q 2<|.q 4<|.q 3<|.q 5<|.q 6<|.q 7<|.done) (by kernel_rfl) ?_
 have hkey:=eq_true hes.key
 have hget:=hes.get e.name he
 simp [ob,os,a0c,hkey,hget,bagL]
 exact fun hz=>a1s hz
theorem e1p {H:GH} {n ms mn mv ma:Nat} {p:Prog} {W:World'} (hW:Wld H n ms mn mv ma p W) (e:Exp) (ks:List Bag) (he:0<=idx (a0d p) e.name) :
  a0j prog 186 [.gp n 0,lv (rExp e),a9a ks] H fun ce H'=>ce=.ret (bagL (W.defs.getD (idx (a0d p) e.name).toNat []))/\H'=H:=by
 have cc:=a0g (p:=kds [4] [] [])
 obtain ⟨ob,os,⟨es,on,hes⟩,ov,dl⟩:=hW
 refine a0j.a1j (a0g (p:=kds [4] [] [])) func186 rfl call186 (by rw [ntmps186];simp) rfl fun hf hw=>?_
 simp [ntmps186,results186,a0c]
 refine AW.draw cc [] (.q 0<|.q 1<|.q 2<|.q 4<|.q 5<|.q 6<|.q 8<|.q 3<|.q 7<|.q 9<|.q 10<|.q 11<|.q 12<|.q 13<|.done) (by kernel_rfl) ?_
 have hkey:=eq_true hes.key
 have hget:=hes.get e.name he
 have hlt:(idx (a0d p) e.name).toNat < W.defs.length:=by
  have:=b9l (a0d p) e.name
  have h2:(a0d p).length=p.defs.length:=by simp [a0d]
  omega
 have hmx:max (idx (a0d p) e.name) 0=idx (a0d p) e.name:=by omega
 have hlt2:idx (a0d p) e.name < W.defs.length:=by omega
 simp [ob,on,ov,a0c,hkey,hget,bagL,hmx,hlt,hlt2,he]
 exact fun hz=>a1s hz
def ItIn (x:Item):Prop:=(0<=x.rec_.at_/\x.rec_.at_<=200)/\a1z x.rec_.key/\a1z x.rec_.val/\(1<=x.n/\x.n<=1000000)
def a1u (b:Bag):Prop:=IncB b/\b.length<=300/\∀ x ∈ b,ItIn x
theorem d8j {H:GH} {n ms mn mv ma:Nat} {p:Prog} {W:World'} (hW:Wld H n ms mn mv ma p W) (e:Exp) (ks:List Bag) (he:0<=idx (a0d p) e.name) (hn:-50<=e.n/\e.n<=50) (hb:∀ b ∈ W.defs,a1u b) :
  a0j prog 187 [.gp n 0,lv (rExp e),a9a ks] H fun ce H'=>ce=.ret (bagL (a4r e.n (W.defs.getD (idx (a0d p) e.name).toNat [])))/\H'=H:=by
 have cc:=a0g (p:=kds [4] [] [])
 obtain ⟨ob,os,⟨es,on,hes⟩,ov,dl⟩:=hW
 refine a0j.a1j (a0g (p:=kds [4] [] [])) func187 rfl call187 (by rw [ntmps187];simp) rfl fun hf hw=>?_
 simp [ntmps187,results187,a0c]
 refine AW.draw cc [(15,.n)] (.q 0<|.q 1<|.q 2<|.q 4<|.q 5<|.q 6<|.q 8<|.q 13<|.q 3<|.q 7<|.q 9<|.q 10<|.q 11<|.q 12<|.q 14<|.q 15<|.q 16<|.done) (by kernel_rfl) ?_
 have hkey:=eq_true hes.key
 have hget:=hes.get e.name he
 have hlt:(idx (a0d p) e.name).toNat < W.defs.length:=by
  have:=b9l (a0d p) e.name
  have h2:(a0d p).length=p.defs.length:=by simp [a0d]
  omega
 have hmx:max (idx (a0d p) e.name) 0=idx (a0d p) e.name:=by omega
 have hlt2:idx (a0d p) e.name < W.defs.length:=by omega
 obtain ⟨b,hbe⟩:∃ b,W.defs[(idx (a0d p) e.name).toNat]=b:=⟨_,rfl⟩
 have hbo:a1u b:=hb b (hbe ▸ List.getElem_mem hlt)
 have hl:=c2l b e.n (by have:=hbo.2.1;omega) (fun x hx=>by have:=(hbo.2.2 x hx).1;omega)
 simp at hl
 simp [ob,on,ov,a0c,hkey,hget,bagL,hmx,hlt,hlt2,he,hbe]
 refine FC.afun hl ?_
 simp
 exact fun hz=>⟨a1s hz,by simp [bagL,List.getElem?_eq_getElem hlt,hbe]⟩
theorem d0s (n:Nat) (e:Exp) (a:Bag) (ha:a1u a) (hn:-50<=e.n/\e.n<=50):AFun prog 191 [.gp n 0,lv (rExp e),a9a [a]] (bagL (a4r e.n a)):=by
 refine AFun.body (a0g (p:=kds [4] [] [])) func191 rfl call191 (by rw [ntmps191];simp) rfl fun hf H=>?_
 have cc:=a0g (p:=kds [4] [] [])
 have hl:=c2l a e.n (by have:=ha.2.1;omega) (fun x hx=>by have:=(ha.2.2 x hx).1;omega)
 simp at hl
 simp [ntmps191,results191,a0c]
 refine AW.draw cc [(5,.n)] (.q 0<|.q 1<|.q 3<|.q 2<|.q 4<|.q 5<|.q 6<|.done) (by kernel_rfl) ?_
 simp [a0c,rBag]
 refine FC.afun hl ?_
 simp [bagL]
theorem d8l (n:Nat) (e:Exp) (a:Bag) (ha:a1u a) (H:GH):a0j prog 199 [.gp n 0,lv (rExp e),a9a [a]] H fun ce H'=>ce=.ret (bagL (c7r a))/\H'=H:=by
 have hl:=a9v (fun x=>⟨x.rec_,1⟩) a (by have:=ha.2.1;omega) 235 [] H (by simp [nbs]) (fun x hx=>(e0f x).keeps H)
 refine a0j.a1j (a0g (p:=kds [4] [] [])) func199 rfl call199 (by rw [ntmps199];simp) rfl fun hf hw=>?_
 simp at hl
 simp [ntmps199,results199,a0c,rBag]
 refine EC.of hl (fun v H2 hR=>?_) (fun v H2 hR=>by cases hR.1)
 obtain ⟨q,rfl⟩:=hR
 cases q
 simp [bagL,c7r]
 exact fun hz=>a1s hz
end Go.Aft
end
section
set_option maxRecDepth 20000
namespace Go.Aft
open Go.Proofs.Tryz
theorem b5l {k:Int} {a:Bag} (ha:a1u a) {x:Item} (hx:x ∈ rowOf k a):ItIn x:=ha.2.2 x (row_mem hx).1
theorem b9k {a:List Item} (h:IncB a):IncT a:=by
 refine List.Pairwise.imp (fun {x y} q=>?_) h
 simp only [a2e,decide_eq_true_eq] at q;omega
theorem e7t {k:Int} {a:Bag} (ha:a1u a):IncT (rowOf k a):=(b9k ha.1).filter _
theorem b6z {a:Bag} (ha:a1u a):∀ x ∈ a,itOk x:=fun x hx=>by
 obtain ⟨_,_,h3,h4⟩:=ha.2.2 x hx
 exact ⟨by omega,h3⟩
theorem e9b {n:Int} (hn:1<=n/\n<=50) {l:List Item} {t lo hi:Int} (ht:0<=t/\t<=200) (h:b5y n l t=some (lo,hi)):0<=hi/\hi<=1000:=by
 simp only [b5y,Option.some.injEq,Prod.mk.injEq] at h
 have h1:=Int.tmod_add_mul_tdiv t n
 have h2:0<=t.tmod n:=Int.tmod_nonneg _ ht.1
 have h3:0<=t.tdiv n:=Int.tdiv_nonneg ht.1 (by omega)
 have h4:0<=t.tdiv n * n:=Int.mul_nonneg h3 (by omega)
 rw [Int.mul_comm] at h1
 omega
theorem e4e (e:Exp):∀ m,nbs m [ipE e]:=fun m=>by simp [nbs,LV.nb,ipE,a0c]
abbrev d4k (l:List Item) (H:GH) (ce:CE) (H':GH):Prop:=(∃ l':List Item,l'.Perm l/\ce=.ret (bagL l'))/\H'=H
theorem d0t (n:Nat) (e:Exp) (a:Bag) (ha:a1u a) (hn:1<=e.n/\e.n<=50) (H:GH):a0j prog 192 [.gp n 0,lv (rExp e),a9a [a]] H (d4k (a4h e.fold 0 (b5y e.n) a) H):=by
 have cc:=a0g (p:=kds [4] [] [])
 have hs:=b0v e a 229 [ipE e] (e4e e) (b5y e.n) 0 ha.2.1 (b6z ha) (fun k x hx=>d2r e _ _ hn (b5l ha hx).1) (fun k x hx lo hi=>e9b hn (b5l ha hx).1) (by omega) H
 refine a0j.a1j (a0g (p:=kds [4] [] [])) func192 rfl call192 (by rw [ntmps192];simp) rfl fun hf hw=>?_
 simp [ipE,a0c] at hs
 simp [ntmps192,results192,a0c]
 refine AW.draw cc [] (.q 1<|.q 2<|.q 4<|.q 0<|.q 3<|.f<|.one 5<|.q 6<|.done) (by kernel_rfl) ?_
 simp [a0c,rBag]
 refine ECn.of hs (fun v H2 hR _=>?_) (fun x H2 env hR _=>by obtain ⟨⟨_,_,q⟩,_⟩:=hR;cases q)
 obtain ⟨⟨l',hp,q⟩,rfl⟩:=hR
 cases q
 simp [bagL]
 exact fun hz=>⟨a1s hz,l',hp,rfl⟩
theorem d0r (n:Nat) (e:Exp) (a:Bag) (ha:a1u a) (hn:0<=e.n/\e.n<=50) (H:GH):a0j prog 193 [.gp n 0,lv (rExp e),a9a [a]] H (d4k (a4h e.fold 0 (b2t e.n) a) H):=by
 have cc:=a0g (p:=kds [4] [] [])
 have hs:=b0v e a 230 [ipE e] (e4e e) (b2t e.n) 0 ha.2.1 (b6z ha) (fun k x hx=>d2p e _ _ hn (b5l ha hx).1) (fun k x hx lo hi h=>by have:=(b5l ha hx).1;simp only [b2t,Option.some.injEq,Prod.mk.injEq] at h;omega) (by omega) H
 refine a0j.a1j (a0g (p:=kds [4] [] [])) func193 rfl call193 (by rw [ntmps193];simp) rfl fun hf hw=>?_
 simp [ipE,a0c] at hs
 simp [ntmps193,results193,a0c]
 refine AW.draw cc [] (.q 1<|.q 2<|.q 4<|.q 0<|.q 3<|.f<|.one 5<|.q 6<|.done) (by kernel_rfl) ?_
 simp [a0c,rBag]
 refine ECn.of hs (fun v H2 hR _=>?_) (fun x H2 env hR _=>by obtain ⟨⟨_,_,q⟩,_⟩:=hR;cases q)
 obtain ⟨⟨l',hp,q⟩,rfl⟩:=hR
 cases q
 simp [bagL]
 exact fun hz=>⟨a1s hz,l',hp,rfl⟩
theorem d0q (n:Nat) (e:Exp) (a:Bag) (ha:a1u a) (H:GH):a0j prog 194 [.gp n 0,lv (rExp e),a9a [a]] H (d4k (a4h e.fold 0 b7e a) H):=by
 have cc:=a0g (p:=kds [4] [] [])
 have hs:=b0v e a 231 [] (by simp [nbs]) b7e 0 ha.2.1 (b6z ha) (fun k x hx=>d2o _ _) (fun k x hx lo hi h=>by have:=(b5l ha hx).1;simp only [b7e,Option.some.injEq,Prod.mk.injEq] at h;omega) (by omega) H
 refine a0j.a1j (a0g (p:=kds [4] [] [])) func194 rfl call194 (by rw [ntmps194];simp) rfl fun hf hw=>?_
 simp [ipE,a0c] at hs
 simp [ntmps194,results194,a0c]
 refine AW.draw cc [] (.q 1<|.q 2<|.q 0<|.q 3<|.f<|.one 4<|.q 5<|.done) (by kernel_rfl) ?_
 simp [a0c,rBag]
 refine ECn.of hs (fun v H2 hR _=>?_) (fun x H2 env hR _=>by obtain ⟨⟨_,_,q⟩,_⟩:=hR;cases q)
 obtain ⟨⟨l',hp,q⟩,rfl⟩:=hR
 cases q
 simp [bagL]
 exact fun hz=>⟨a1s hz,l',hp,rfl⟩
theorem f2l {n:Int} {l:List Item} {t lo hi:Int} (ht:0<=t/\t<=200) (h:b6i n l t=some (lo,hi)):0<=hi/\hi<=1000:=by
 unfold b6i at h
 split at h
 ·simp only [Option.some.injEq,Prod.mk.injEq] at h;omega
 ·cases h
theorem d8i (n:Nat) (e:Exp) (a:Bag) (ha:a1u a) (hn:1<=e.n/\e.n<=50) (H:GH):a0j prog 195 [.gp n 0,lv (rExp e),a9a [a]] H (d4k (a4h e.fold e.n (b6i e.n) a) H):=by
 have cc:=a0g (p:=kds [4] [] [])
 have hs:=b0v e a 232 [ipE e] (e4e e) (b6i e.n) e.n ha.2.1 (b6z ha) (fun k x hx=>e0e e _ _ hn (b5l ha hx).1 (e7t ha) (fun y hy=>(b5l ha hy).1)) (fun k x hx lo hi=>f2l (b5l ha hx).1) (by omega) H
 refine a0j.a1j (a0g (p:=kds [4] [] [])) func195 rfl call195 (by rw [ntmps195];simp) rfl fun hf hw=>?_
 simp [ipE,a0c] at hs
 simp [ntmps195,results195,a0c]
 refine AW.draw cc [] (.q 1<|.q 2<|.q 4<|.q 5<|.q 0<|.q 3<|.q 6<|.f<|.one 7<|.q 8<|.done) (by kernel_rfl) ?_
 simp [a0c,rBag]
 refine ECn.of hs (fun v H2 hR _=>?_) (fun x H2 env hR _=>by obtain ⟨⟨_,_,q⟩,_⟩:=hR;cases q)
 obtain ⟨⟨l',hp,q⟩,rfl⟩:=hR
 cases q
 simp [bagL]
 exact fun hz=>⟨a1s hz,l',hp,rfl⟩
theorem b9j {x:Item} (h:ItIn x):d9j x.rec_:=⟨⟨by have:=h.1;omega,by have:=h.1;omega⟩,h.2.1,h.2.2.1⟩
theorem d0p (n:Nat) (e:Exp) (c:Calc) (a:Bag) (ha:a1u a) (hc:e.a0k=[c]) (hv:VOk c):AFun prog 189 [.gp n 0,lv (rExp e),a9a [a]] (bagL (a7c c a)):=by
 have cc:=a0g (p:=kds [4] [] [])
 intro H
 refine a0j.a1j (a0g (p:=kds [4] [] [])) func189 rfl call189 (by rw [ntmps189];simp) rfl fun hf hw=>?_
 have hvo:=a3w hv
 simp [a0o] at hvo
 have hal:=ha.2.1
 simp [ntmps189,results189,a0c,hc,rBag,a0o]
 refine EC.afun hvo ?_
 simp [vFn]
 refine AW.a0w cc (fun s:Nat × LV × GH=>⟨[(7,vFn c),(8,s.2.1),(18,sl (a.map a0i)),(19,lvI a.length),(20,lvI s.1)],[],s.2.2⟩) (fun s=>a.length - s.1)
  (fun s=>s.1<=a.length/\AppX 86 4 H s.2.1 ((a7c c (a.take s.1)).map a0i) s.2.2) (0,.d (.k (.slice none 0 0)),H) ⟨⟨Nat.zero_le _,by simpa [a7c] using AppX.nil⟩,by simp [vFn,a1r _ (a2h hv 0)]⟩ ?_
 rintro ⟨i,y,H2⟩ ⟨hi,happ⟩
 simp only at hi happ
 simp
 refine ⟨fun h=>?_,fun h=>?_⟩
 ·obtain ⟨x,hxe⟩:∃ x,a[i]=x:=⟨_,rfl⟩
  have htk:a.take (i+1)=a.take i ++ [x]:=by rw [<- a0p h,hxe]
  have hxi:=ha.2.2 x (hxe ▸ List.getElem_mem h)
  have hcv:=a7d (b9j hxi) (o:=0) (by unfold a1z;omega) hv
  have hw':=wrap_succ (n:=9223372036854775807) (show i < 9223372036854775807 by omega)
  simp [rRec] at hcv
  simp [h,List.getElem?_eq_getElem h,hxe,a0i,vFn]
  refine ⟨a2h hv _,EC.afun hcv ?_⟩
  simp [happ.plain.all]
  have hwm:a7c c (a.take (i+1))=a7c c (a.take i) ++ (if cVal x.rec_ 0 c ≠ 0 then [x] else []):=by
   rw [htk];unfold a7c;rw [List.filter_append,List.filter_cons]
   by_cases q:cVal x.rec_ 0 c=0 <;> simp [q]
  have hwl:(a7c c (a.take i)).length<=300:=Nat.le_trans (List.length_filter_le _ _) (by simp;omega)
  refine ⟨fun q=>?_,fun q=>?_⟩
  ·refine APK.appX (ys:=[a0i x]) tyE29 rfl tyE86 (by simp) (x:=y) (by simp) happ (by simp [a0i,rowsOf]) (by simp) (a1b _) (fun r hr=>by simp only [List.mem_singleton] at hr;subst hr;rfl) (by simp;omega) (by simp) fun x' H3 happ' _ _=>?_
   simp [happ'.plain.all,happ'.only,hw']
   refine NX.go (i+1,x',H3) (by simp only;omega) ⟨h,?_⟩ (by simp [happ'.only,vFn,a1r _ (a2h hv 0)])
   rw [hwm,if_pos q,List.map_append];exact happ'
  ·rw [if_neg (by simpa using q),List.append_nil] at hwm
   exact NX.go (i+1,y,H2) (by simp only;omega) ⟨h,by rw [hwm];exact happ⟩ (by simp [happ.only,vFn,a1r _ (a2h hv 0),hw'])
 ·have:i=a.length:=by omega
  subst this
  rw [List.take_length] at happ
  simp [happ.plain.all,happ.fz,bagL]
  exact fun hz=>a0m happ.nx happ.ob hw.none
theorem f6m {k v:Calc} (hk:VOk k) (hv:VOk v) (x:Item) (hx:ItIn x) {m1 m2:Nat} {H:GH} (l1:m1 < H.next) (l2:m2 < H.next) (o1:H.obj m1=some (.box [vFn k])) (o2:H.obj m2=some (.box [vFn v])) :
  f4h prog 227 ([lv (a0i x)] ++ [.gp m1 0,.gp m2 0]) H (lv (a0i ⟨⟨x.rec_.at_,cVal x.rec_ 0 k,cVal x.rec_ 0 v⟩,x.n⟩)):=by
 intro H' hn ho
 have cc:=a0g (p:=kds [3] [] [])
 refine a0j.a1j (a0g (p:=kds [3] [] [])) func227 rfl call227 (by rw [ntmps227];simp) rfl fun hf hw=>?_
 have o1':H'.obj m1=some (.box [vFn k]):=by rw [ho _ l1];exact o1
 have o2':H'.obj m2=some (.box [vFn v]):=by rw [ho _ l2];exact o2
 have h1:=a7d (b9j hx) (o:=0) (by unfold a1z;omega) hk
 have h2:=a7d (b9j hx) (o:=0) (by unfold a1z;omega) hv
 have hn1:=fun m=>a2h hk m
 have hn2:=fun m=>a2h hv m
 simp [rRec] at h1 h2
 simp [ntmps227,results227,a0i]
 refine AW.draw cc [(6,.n),(10,.n)] (.q 0<|.q 1<|.q 4<|.q 8<|.q 12<|.q 2<|.q 3<|.q 5<|.q 6<|.q 7<|.q 9<|.q 10<|.q 11<|.q 13<|.q 14<|.f<|.one 15<|.done) (by kernel_rfl) ?_
 simp [o1',o2',vFn,a0i]
 refine ⟨hn1 _,FC.afun h1 ?_⟩
 simp [o1',o2',vFn,a0i]
 refine ⟨hn2 _,FC.afun h2 ?_⟩
 simp
 exact fun hz=>⟨a1s hz,rfl⟩
theorem d8n (n:Nat) (e:Exp) (k v:Calc) (a:Bag) (ha:a1u a) (hc:e.a0k=[k,v]) (hk:VOk k) (hv:VOk v) (H:GH):a0j prog 190 [.gp n 0,lv (rExp e),a9a [a]] H fun ce H'=>ce=.ret (bagL (d3n k v a))/\H'=H:=by
 have cc:=a0g (p:=kds [4] [7,8] [])
 refine a0j.a1j (a0g (p:=kds [4] [7,8] [])) func190 rfl call190 (by rw [ntmps190];simp) rfl fun hf hw=>?_
 have hvo1:=a3w hk
 have hvo2:=a3w hv
 simp [a0o] at hvo1 hvo2
 simp [ntmps190,results190,a0c,hc]
 refine AW.draw cc [(4,.n),(9,.n)] (.q 0<|.q 5<|.q 1<|.q 2<|.q 3<|.q 4<|.q 6<|.q 7<|.q 8<|.q 9<|.f (.cons 10 (.f<|.one 11<|.f<|.one 12<|.f<|.one 13<|.done) (.cons 11 (.f<|.one 10<|.f<|.one 12<|.f<|.one 13<|.done) (.nil)))) (by kernel_rfl) ?_
 simp [a0c,hc,a0o]
 refine FC.afun hvo1 ?_
 simp [a0c,hc,a0o]
 refine FC.afun hvo2 ?_
 have add0:∀ o o':GO,((H.add o).add o').obj H.next=some o:=fun o o'=>by rw [GH.a0b,GH.a0a,if_neg (by omega),GH.a0b,if_pos rfl]
 have add1:∀ o o':GO,((H.add o).add o').obj (H.next+1)=some o':=fun o o'=>by rw [GH.a0b,GH.a0a,if_pos rfl]
 have addn:∀ o:GO,(H.add o).next=H.next+1:=fun o=>rfl
 have adds1:∀ o o' u:GO,((H.add o).add o').set (H.next+1) u=(H.add o).add u:=fun o o' u=>by rw [<- addn o];exact GH.a1v
 have adds0:∀ o o' u:GO,((H.add o).add o').set H.next u=(H.add u).add o':=fun o o' u=>by
  simp only [GH.set,GH.add];congr 1;funext m;unfold upd;split <;> simp_all
 have hn1:=fun m=>a2h hk m
 have hn2:=fun m=>a2h hv m
 simp [a0c,hc,a0o,vFn,add0,add1,addn,adds0,adds1,hn1,hn2,rBag]
 have hfin:∀ (o o':GO) (m1 m2:Nat),m1 < H.next+2->m2 < H.next+2->((H.add o).add o').obj m1=some (.box [vFn k])->((H.add o).add o').obj m2=some (.box [vFn v]) ->
   a0j prog 226 [.d (.sl (a.map a0i)),.fn (.func 227) [] [.gp m1 0,.gp m2 0]] ((H.add o).add o') fun ce H'=>ce=.ret (.d (.sl ((d3n k v a).map a0i)))/\H'=(H.add o).add o':=fun o o' m1 m2 l1 l2 o1 o2 =>
  a9v (fun x=>⟨⟨x.rec_.at_,cVal x.rec_ 0 k,cVal x.rec_ 0 v⟩,x.n⟩) a (by have:=ha.2.1;omega) 227 [.gp m1 0,.gp m2 0] _ (by simp [nbs,LV.nb,GH.a0a];omega) (fun x hx=>f6m hk hv x (ha.2.2 x hx) (by rw [GH.a0a,GH.a0a];omega) (by rw [GH.a0a,GH.a0a];omega) o1 o2)
 refine ⟨⟨⟨by simp only [GH.a0a];omega,by simp only [GH.a0a];omega⟩,EC.of (hfin _ _ _ _ (by omega) (by omega) (add0 _ _) (add1 _ _)) (fun v' H2 hR=>?_) (fun v' H2 hR=>by cases hR.1)⟩,⟨by simp only [GH.a0a];omega,by simp only [GH.a0a];omega⟩,EC.of (hfin _ _ _ _ (by omega) (by omega) (add1 _ _) (add0 _ _)) (fun v' H2 hR=>?_) (fun v' H2 hR=>by cases hR.1)⟩
 all_goals
  obtain ⟨q,rfl⟩:=hR
  cases q
  simp [bagL]
  exact fun _=>a0m (by simp only [GH.a0a];omega) (fun m hm=>by rw [GH.a0b,GH.a0a,if_neg (by omega),GH.a0b,if_neg (by omega)]) hw.none
end Go.Aft
end
