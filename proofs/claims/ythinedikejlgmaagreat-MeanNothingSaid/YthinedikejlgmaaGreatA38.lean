import Derived.Test.YthinedikejlgmaaGreatA37
import Derived.Test.YthinedikejlgmaaGreatA32
import Derived.Test.YthinedikejlgmaaGreatA35
set_option linter.all false
section
set_option maxRecDepth 20000
namespace Go.Aft
open Go.Proofs.Tryz
theorem rings_in {n:Nat} {R:Nat->Nat->Bool} (ht:∀ i j k,R i j=true->R j k=true->R i k=true) {r:List Nat} (hr:r ∈ ringsM n R) {k:Nat} (hk:k ∈ r):R k k=true/\inM n R k=r:=by
 simp only [ringsM,List.mem_map,List.mem_filter,Bool.and_eq_true] at hr
 obtain ⟨i,⟨_,hi,_⟩,rfl⟩:=hr
 have h2:R i k=true/\R k i=true:=by
  rcases (mem_ringAt.1 hk).2 with rfl | h
  ·exact ⟨hi,hi⟩
  ·exact h
 have hkk:R k k=true:=ht _ _ _ h2.2 h2.1
 refine ⟨hkk,?_⟩
 rw [inM,if_pos hkk]
 unfold ringAt
 refine List.filter_congr fun j _=>?_
 rw [Bool.eq_iff_iff]
 simp only [Bool.or_eq_true,beq_iff_eq,Bool.and_eq_true]
 constructor
 ·rintro (rfl | ⟨h3,h4⟩)
  ·exact .inr h2
  ·exact .inr ⟨ht _ _ _ h2.1 h3,ht _ _ _ h4 h2.2⟩
 ·rintro (rfl | ⟨h3,h4⟩)
  ·exact .inr ⟨h2.2,h2.1⟩
  ·exact .inr ⟨ht _ _ _ h2.2 h3,ht _ _ _ h4 h2.1⟩
theorem in_put {F:Nat->List Nat} {ks:List Int} (hn:ks.Nodup) (k:Nat):mput (.int .i64 (k:Int)) (rowN (F k)) (inE ks F)=inE (if (k:Int) ∈ ks then ks else ks ++ [(k:Int)]) F:=by
 rw [inE,mput_esI _ _ _ _ hn,inE]
 refine esI_congr fun j _=>?_
 by_cases e:j=(k:Int)
 ·rw [if_pos e,e];rfl
 ·rw [if_neg e]
theorem in_get {F:Nat->List Nat} (ks:List Int) (k:Nat):mfind (.int .i64 (k:Int)) (inE ks F)=if (k:Int) ∈ ks then some (rowN (F k)) else none:=by
 rw [inE,mfind_esI];rfl
theorem in_nodup {ks:List Int} (hn:ks.Nodup) (k:Int):(if k ∈ ks then ks else ks ++ [k]).Nodup:=by
 split
 ·exact hn
 ·rename_i q
  rw [List.nodup_append]
  exact ⟨hn,by simp,fun a ha b hb=>by simp at hb;subst hb;intro z;subst z;exact q ha⟩
theorem in_mem {ks:List Int} {k x:Int}:x ∈ (if k ∈ ks then ks else ks ++ [k]) ↔ x ∈ ks \/ x=k:=by
 split
 ·rename_i q
  exact ⟨.inl,fun h=>by rcases h with h | rfl;exact h;exact q⟩
 ·simp
theorem mean_groups (p:Prog) (hstr:∀ s ∈ p.srcs ++ defNames p,strFit s) (hp:formed p) (hs1:0 < p.srcs.length) (hs12:p.srcs.length<=12) (g:Good p) (H:GH) :
  ECall prog 65 [lv (rProg p)] H fun ce H'=>ce=.ret (sl ((groupsM p.defs.length (pathB p)).map rT))/\H'=H:=by
 have cc:=cxK_ok (p:=kds [1] [5,11] [])
 refine ECall.bodyNW (cxK_ok (p:=kds [1] [5,11] [])) func65 rfl call65 (by rw [ntmps65];simp) rfl fun hf hw=>?_
 have hri:=term_Rings p hstr hp g H
 have hg1:=fun {G:GH} {b11 md b5 mi:Nat} {ks:List Int} {D:List Nat} (h:Grp G b11 md b5 mi p.defs.length (inM p.defs.length (pathB p)) ks D) (d:Nat) (hd:d < p.defs.length)=>groups_1 p hstr hp hs1 hs12 g h d hd
 have ht:∀ i j k,pathB p i j=true->pathB p j k=true->pathB p i k=true:=fun i j k h1 h2=>by
  simp only [pathB,decide_eq_true_eq] at h1 h2 |-;exact h1.trans h2
 have hlaw:=fun {k:Nat} (hk:k < p.defs.length)=>rings_law (n:=p.defs.length) ht hk
 obtain ⟨n,hn⟩:∃ n,p.defs.length=n:=⟨_,rfl⟩
 have hn6:n<=6:=hn ▸ g.n6
 obtain ⟨R,hR⟩:∃ R,pathB p=R:=⟨_,rfl⟩
 rw [hn,hR] at hri
 rw [hR] at ht hlaw hg1 |-
 rw [hn] at hlaw hg1
 rw [hn]
 obtain ⟨Rg,hRg⟩:∃ Rg,ringsM n R=Rg:=⟨_,rfl⟩
 have hRl:Rg.length<=6:=by
  rw [<- hRg,ringsM,List.length_map]
  exact Nat.le_trans (List.length_filter_le _ _) (by simp;omega)
 rw [hRg] at hri
 simp [rProg] at hri
 simp [ntmps65,results65,rProg] at hf |-
 refine AW.seq cc ?_
 simp
 refine AW.seq cc ?_
 simp
 refine EC.of hri (fun v G2 hR2=>?_) (fun v G2 hR2=>by cases hR2.1)
 obtain ⟨q,hE⟩:=hR2
 cases q
 rw [hE]
 clear hE
 simp
 refine AW.seq cc ?_
 simp [GH.add_obj,GH.add_next]
 refine ⟨by omega,?_⟩
 obtain ⟨H1,hH1⟩:∃ H1,((H.add (GO.map [])).add (GO.box [LV.d (DV.k (Value.map none))])).set (H.next+1) (GO.box [LV.gm H.next])=H1:=⟨_,rfl⟩
 have n1:H1.next=H.next+2:=by rw [<- hH1];rfl
 have b1:H1.obj (H.next+1)=some (.box [.gm H.next]):=by rw [<- hH1,GH.set_same]
 have m1:H1.obj H.next=some (.map []):=by rw [<- hH1,GH.set_obj,if_neg (by omega),GH.add_obj,if_neg (by rw [GH.add_next];omega),GH.add_obj,if_pos rfl]
 have o1:∀ m,m < H.next->H1.obj m=H.obj m:=fun m hm=>by rw [<- hH1,GH.set_obj,if_neg (by omega),GH.add_obj,if_neg (by rw [GH.add_next];omega),GH.add_obj,if_neg (by omega)]
 rw [hH1]
 clear hH1
 obtain ⟨F,hF⟩:∃ F,inM n R=F:=⟨_,rfl⟩
 rw [hF] at hg1
 have hA:∀ ks,(H1.set H.next (.map (inE ks F))).obj (H.next+1)=some (.box [.gm H.next]):=fun ks=>by rw [GH.set_obj,if_neg (by omega)];exact b1
 have hA0:H1.set H.next (.map (inE [] F))=H1:=GH.set_id (by rw [m1];rfl)
 have hset:∀ X Y,(H1.set H.next X).set H.next Y=H1.set H.next Y:=fun X Y=>GH.set_set
 refine AW.seq cc ?_
 simp
 refine AW.loopS cc (fun a:Nat × List Int=>⟨[(1,.ip ((rProg p).map .d) 0),(5,.gp (H.next+1) 0),(23,sl (Rg.map rT)),(24,lvI Rg.length),(25,lvI a.1)],[],H1.set H.next (.map (inE a.2 F))⟩) (fun a=>Rg.length - a.1)
  (fun a=>a.1<=Rg.length/\a.2.Nodup/\(∀ r ∈ Rg.take a.1,∀ k ∈ r,((k:Nat):Int) ∈ a.2)/\(∀ x ∈ a.2,∃ k:Nat,x=k/\k < n/\R k k=true)) (0,[]) ⟨⟨Nat.zero_le _,by simp,by simp,by simp⟩,by simp [rProg,hA0]⟩ ?_
 ·rintro ⟨i,ks⟩ ⟨hi,hkn,hka,hkb⟩
  simp only at hi hkn hka hkb
  have hwi:=wrap_succ (n:=9223372036854775807) (show i < 9223372036854775807 by omega)
  simp [rProg]
  refine ⟨fun h=>?_,fun h=>?_⟩
  ·obtain ⟨r,hr⟩:∃ r,Rg[i]=r:=⟨_,rfl⟩
   have hrm:r ∈ ringsM n R:=by rw [hRg];exact hr ▸ List.getElem_mem h
   have hrl:r.length<=6:=by
    simp only [ringsM,List.mem_map] at hrm
    obtain ⟨j,_,rfl⟩:=hrm
    exact Nat.le_trans (List.length_filter_le _ _) (by simp;omega)
   have htk:Rg.take (i+1)=Rg.take i ++ [r]:=by rw [<- take_more h,hr]
   simp [h,List.getElem?_eq_getElem h,hr,rT]
   refine AW.loopS cc (fun a:Nat × List Int=>⟨[(1,.ip ((rProg p).map .d) 0),(5,.gp (H.next+1) 0),(7,rowN r),(23,sl (Rg.map rT)),(24,lvI Rg.length),(25,lvI i),(29,rowN r),(30,lvI r.length),(31,lvI a.1)],[],H1.set H.next (.map (inE a.2 F))⟩) (fun a=>r.length - a.1)
    (fun a=>a.1<=r.length/\a.2.Nodup/\(∀ x ∈ ks,x ∈ a.2)/\(∀ k ∈ r.take a.1,((k:Nat):Int) ∈ a.2)/\(∀ x ∈ a.2,∃ k:Nat,x=k/\k < n/\R k k=true)) (0,ks) ⟨⟨Nat.zero_le _,hkn,fun x hx=>hx,by simp,hkb⟩,by simp [rProg,rowN,natI,rT]⟩ ?_
   rintro ⟨j,ks2⟩ ⟨hj,d1,d2,d3,d4⟩
   simp only at hj d1 d2 d3 d4
   have hwj:=wrap_succ (n:=9223372036854775807) (show j < 9223372036854775807 by omega)
   simp [rowN]
   refine ⟨fun h2=>?_,fun h2=>?_⟩
   ·have hj':j < r.length:=by simpa [natI] using h2
    obtain ⟨k,hk⟩:∃ k,r[j]=k:=⟨_,rfl⟩
    have hkr:k ∈ r:=hk ▸ List.getElem_mem hj'
    have htk2:r.take (j+1)=r.take j ++ [k]:=by rw [<- take_more hj',hk]
    have hgk:(natI r)[j]?=some (k:Int):=by simp [natI,List.getElem?_eq_getElem hj',hk]
    have hin:=rings_in (n:=n) (R:=R) ht hrm hkr
    rw [hF] at hin
    have hput:=in_put (F:=F) d1 k
    rw [hin.2] at hput
    have hkey:=eq_true (esI_key ks2 fun k=>rowN (F k.toNat))
    have hie:inE ks2 F=esI ks2 fun k=>rowN (F k.toNat):=rfl
    rw [<- hie] at hkey
    have hmo:∀ X,(H1.set H.next X).obj H.next=some X:=fun X=>GH.set_same
    have hkn2:k < n:=by
     simp only [ringsM,List.mem_map] at hrm
     obtain ⟨i0,_,rfl⟩:=hrm
     exact (mem_ringAt.1 hkr).1
    have hput2:mput (.int .i64 (k:Int)) (.d (.sl ((natI r).map rI))) (inE ks2 F)=inE (if (k:Int) ∈ ks2 then ks2 else ks2 ++ [(k:Int)]) F:=hput
    simp [hj',hgk,rI,hA,hmo,hkey,hset]
    refine ⟨by simpa [natI] using hj',NX.go (j+1,if (k:Int) ∈ ks2 then ks2 else ks2 ++ [(k:Int)]) (by simp only;omega) ⟨hj',in_nodup d1 _,fun x hx=>in_mem.2 (.inl (d2 x hx)),fun u hu=>?_,fun x hx=>?_⟩ (by simp [rProg,hwj,rowN,hput2])⟩
    ·simp only at hu |-
     rw [htk2,List.mem_append] at hu
     rcases hu with hu | hu
     ·exact in_mem.2 (.inl (d3 u hu))
     ·simp at hu;rw [hu];exact in_mem.2 (.inr rfl)
    ·simp only at hx
     rcases in_mem.1 hx with hx | hx
     ·exact d4 x hx
     ·exact ⟨k,hx,hkn2,hin.1⟩
   ·have e1:j=r.length:=by
     have:¬ j < r.length:=by simpa [natI] using h2
     omega
    subst e1
    rw [List.take_length] at d3
    refine NX.go (i+1,ks2) (by simp only;omega) ⟨h,d1,fun r' hr' k hk=>?_,d4⟩ (by simp [rProg,hwi])
    simp only at hr' |-
    rw [htk,List.mem_append] at hr'
    rcases hr' with hr' | hr'
    ·exact d2 _ (hka r' hr' k hk)
    ·simp at hr';rw [hr'] at hk;exact d3 k hk
  ·have e1:i=Rg.length:=by omega
   subst e1
   rw [List.take_length] at hka
   have hksR:∀ k:Nat,k < n->R k k=true->((k:Nat):Int) ∈ ks:=fun k hk hkk=>by
    obtain ⟨r,hr,hkr⟩:=(hlaw (k:=k) hk).2 hkk
    rw [hRg] at hr
    exact hka r hr k hkr
   have hks0:∀ k:Nat,((k:Nat):Int) ∈ ks->R k k=true:=fun k hk=>by
    obtain ⟨k',h1,_,h3⟩:=hkb _ hk
    have:k'=k:=by omega
    rw [<- this];exact h3
   refine AW.seq cc ?_
   simp [rProg,hn]
   refine AW.loopS cc (fun a:Nat × List Int=>⟨[(1,.ip ((rProg p).map .d) 0),(5,.gp (H.next+1) 0),(42,lvI n),(43,lvI a.1)],[],H1.set H.next (.map (inE a.2 F))⟩) (fun a=>n - a.1)
    (fun a=>a.1<=n/\a.2.Nodup/\(∀ x ∈ ks,x ∈ a.2)/\(∀ k:Nat,k < a.1->(k:Int) ∈ a.2)/\(∀ k:Nat,a.1<=k->((k:Int) ∈ a.2 ↔ (k:Int) ∈ ks))) (0,ks) ⟨⟨Nat.zero_le _,hkn,fun x hx=>hx,fun k hk=>by simp only at hk;omega,fun k _=>Iff.rfl⟩,by simp [rProg]⟩ ?_
   rintro ⟨d,ks2⟩ ⟨hd,d1,d2,d3,d4⟩
   simp only at hd d1 d2 d3 d4
   have hwd:=wrap_succ (n:=9223372036854775807) (show d < 9223372036854775807 by omega)
   have hkey:=eq_true (esI_key ks2 fun k=>rowN (F k.toNat))
   have hie:inE ks2 F=esI ks2 fun k=>rowN (F k.toNat):=rfl
   rw [<- hie] at hkey
   have hmo:∀ X,(H1.set H.next X).obj H.next=some X:=fun X=>GH.set_same
   have hget:=in_get (F:=F) ks2 d
   have hput:=in_put (F:=F) d1 d
   simp
   refine ⟨fun h=>?_,fun h=>?_⟩
   ·by_cases hdk:(d:Int) ∈ ks2
    ·rw [if_pos hdk] at hget
     obtain ⟨a,l,hal⟩:∃ a l,F d=a :: l:=by
      have:=inM_self (n:=n) (R:=R) (d:=d) h
      rw [hF] at this
      cases q:F d with
      | nil=>rw [q] at this;cases this
      | cons a l=>exact ⟨a,l,rfl⟩
     have hro:rowN (F d)=.d (.sl (rI a :: (natI l).map rI)):=by rw [hal];rfl
     rw [hro] at hget
     simp [hA,hmo,hkey,hget]
     refine NX.go (d+1,ks2) (by simp only;omega) ⟨h,d1,d2,fun k hk=>?_,fun k hk=>d4 k (by simp only at hk;omega)⟩ (by simp [rProg,hwd])
     by_cases e:k=d
     ·rw [e];exact hdk
     ·exact d3 k (by simp only at hk;omega)
    ·rw [if_neg hdk] at hget
     have hRd:¬ R d d=true:=fun q=>hdk (d2 _ (hksR d h q))
     have hFd:F d=[d]:=by rw [<- hF,inM,if_neg hRd]
     rw [hFd,if_neg hdk] at hput
     have hput2:mput (.int .i64 (d:Int)) (.d (.sl [[.k (.int .i64 (d:Int))]])) (inE ks2 F)=inE (ks2 ++ [(d:Int)]) F:=hput
     simp [hA,hmo,hkey,hget]
     refine NX.go (d+1,ks2 ++ [(d:Int)]) (by simp only;omega) ⟨h,?_,fun x hx=>by simp only;rw [List.mem_append];exact .inl (d2 x hx),fun k hk=>?_,fun k hk=>?_⟩ (by simp [rProg,hwd,hput2,hset])
     ·have:=in_nodup d1 (d:Int)
      rw [if_neg hdk] at this;exact this
     ·simp only at hk |-
      rw [List.mem_append]
      by_cases e:k=d
      ·rw [e];exact .inr (by simp)
      ·exact .inl (d3 k (by omega))
     ·simp only at hk |-
      rw [List.mem_append]
      constructor
      ·rintro (q | q)
       ·exact (d4 k (by omega)).1 q
       ·simp at q;omega
      ·exact fun q=>.inl ((d4 k (by omega)).2 q)
   ·have edn:d=n:=by omega
    rw [edn] at d3
    clear d4 hget hput
    refine AW.seq cc ?_
    simp [GH.add_obj,GH.add_next]
    refine ⟨by omega,?_⟩
    obtain ⟨B,hB⟩:∃ B,H1.set H.next (.map (inE ks2 F))=B:=⟨_,rfl⟩
    have eB:B.next=H.next+2:=by rw [<- hB,GH.set_next,n1]
    have Bi:B.obj H.next=some (.map (inE ks2 F)):=by rw [<- hB,GH.set_same]
    have B5:B.obj (H.next+1)=some (.box [.gm H.next]):=by rw [<- hB];exact hA ks2
    have Bl:∀ m,m < H.next->B.obj m=H.obj m:=fun m hm=>by rw [<- hB,GH.set_obj,if_neg (by omega)];exact o1 m hm
    rw [hB]
    obtain ⟨H2,hH2⟩:∃ H2,((B.add (.map [])).add (.box [.d (.k (.map none))])).set (B.next+1) (.box [.gm B.next])=H2:=⟨_,rfl⟩
    have e2:H2.next=H.next+4:=by rw [<- hH2,GH.set_next,GH.add_next,GH.add_next,eB]
    have l2:∀ m,m < B.next->H2.obj m=B.obj m:=fun m hm=>by rw [<- hH2,GH.set_obj,if_neg (by omega),GH.add_obj,if_neg (by rw [GH.add_next];omega),GH.add_obj,if_neg (by omega)]
    have bmd:H2.obj (H.next+2)=some (.map (doneE [])):=by rw [<- hH2,GH.set_obj,if_neg (by omega),GH.add_obj,if_neg (by rw [GH.add_next];omega),GH.add_obj,if_pos (by omega)];rfl
    have b11:H2.obj (H.next+3)=some (.box [.gm (H.next+2)]):=by rw [<- hH2,eB,GH.set_obj,if_pos rfl]
    rw [hH2]
    clear hH2
    refine AW.seq cc ?_
    simp [eB,e2]
    refine AW.seq cc ?_
    simp
    refine AW.seq cc ?_
    simp
    refine AW.loopS cc (fun a:List Nat × LV × GH=>⟨[(1,.ip ((rProg p).map .d) 0),(5,.gp (H.next+1) 0),(11,.gp (H.next+3) 0),(12,.fn (.func 121) [] [.ip ((rProg p).map .d) 0,.gp (H.next+3) 0,.gp (H.next+1) 0]),(13,a.2.1)],[],a.2.2⟩) (fun a=>n - a.1.length)
     (fun a=>a.1.Nodup/\(∀ x ∈ a.1,x < n)/\H.next+4<=a.2.2.next/\a.2.2.obj (H.next+2)=some (.map (doneE a.1))/\(∀ m,m < H.next+4->m ≠ H.next+2->a.2.2.obj m=H2.obj m)/\∃ outL f,n - a.1.length<=f/\outL ++ groupsGo n R f a.1=groupsM n R/\outL.length<=a.1.length/\OwnX 94 1 (H.next+4) a.2.1 (outL.map rT) a.2.2)
     ([],.d (.k (.slice none 0 0)),H2) ⟨⟨by simp,by simp,by simp only;omega,bmd,fun m hm _=>rfl,[],n,by simp,rfl,by simp,by simpa using OwnX.nil (by omega)⟩,by simp [rProg]⟩ ?_
    rintro ⟨D,x,G⟩ ⟨c1,c2,c3,c4,c5,outL,f,c6,c7,c8,c9⟩
    simp only at c1 c2 c3 c4 c5 c6 c7 c8 c9
    have hgrp:Grp G (H.next+3) (H.next+2) (H.next+1) H.next n F ks2 D :=
     ⟨by rw [c5 _ (by omega) (by omega)];exact b11,c4,by rw [c5 _ (by omega) (by omega),l2 _ (by omega)];exact B5,by rw [c5 _ (by omega) (by omega),l2 _ (by omega)];exact Bi,d3⟩
    have hdl:(doneE D).length=D.length:=by simp [doneE,esI,natI]
    simp [hgrp.o11,hgrp.od,rProg,hn,hdl]
    refine ⟨fun h=>?_,fun h=>?_⟩
    ·refine AW.ev cc ?_
     simp [rProg,hn]
     refine AW.loopS cc (fun a:Nat=>⟨[(1,.ip ((rProg p).map .d) 0),(5,.gp (H.next+1) 0),(11,.gp (H.next+3) 0),(12,.fn (.func 121) [] [.ip ((rProg p).map .d) 0,.gp (H.next+3) 0,.gp (H.next+1) 0]),(13,x),(65,lvI n),(66,lvI a)],[],G⟩) (fun a=>n - a)
      (fun a=>a<=n/\∀ k,k < a->readyM n R D k=false) 0 ⟨⟨Nat.zero_le _,fun k hk=>by omega⟩,by simp [rProg,c9.only]⟩ ?_
     rintro e ⟨he,hnr⟩
     have hwe:=wrap_succ (n:=9223372036854775807) (show e < 9223372036854775807 by omega)
     simp
     refine ⟨fun h2=>?_,fun h2=>?_⟩
     ·have hre:=hg1 hgrp e h2
      simp [rProg] at hre
      simp [rProg]
      refine ⟨⟨by omega,by omega⟩,EC.of hre (fun v G3 hR3=>?_) (fun v G3 hR3=>by cases hR3.1)⟩
      obtain ⟨q,hE⟩:=hR3
      cases q
      rw [hE]
      clear hE
      have hgi:mfind (.int .i64 (e:Int)) (inE ks2 F)=some (rowN (F e)):=by rw [in_get,if_pos (d3 e h2)]
      have hki:=eq_true (esI_key ks2 fun k=>rowN (F k.toNat))
      have hie:inE ks2 F=esI ks2 fun k=>rowN (F k.toNat):=rfl
      rw [<- hie] at hki
      obtain ⟨a,l,hal⟩:∃ a l,F e=a :: l:=by
       have:=inM_self (n:=n) (R:=R) (d:=e) h2
       rw [hF] at this
       cases q:F e with
       | nil=>rw [q] at this;cases this
       | cons a l=>exact ⟨a,l,rfl⟩
      have hFl:(F e).length<=6:=by rw [<- hF];exact Nat.le_trans (inM_len (by omega)) (by omega)
      have hcl:=ints_Clone a (natI l) (by rw [hal] at hFl;simp [natI] at hFl |-;omega)
      have hrow:rowN (F e)=.d (.sl (rI a :: (natI l).map rI)):=by rw [hal];rfl
      simp at hcl
      cases hq:readyM n R D e with
      | false =>
       simp
       refine NX.go (e+1) (by omega) ⟨h2,fun k hk=>?_⟩ (by simp [rProg,c9.only,hwe])
       by_cases e1:k=e
       ·rw [e1];exact hq
       ·exact hnr k (by omega)
      | true =>
       simp [hgrp.o5,hgrp.oi,hgi,hki,hrow,c9.plain.all]
       refine EC.afun hcl ?_
       simp [c9.plain.all]
       refine APK.appX (H0:=⟨G.obj,H.next+4⟩) (ys:=[rT (F e)]) tyE44 rfl tyE94 (by simp) (x:=x) (by simp) c9 (by simp [rowsOf,rT,hal,natI]) (by simp) (rT_all _) (fun r hr=>by simp only [List.mem_singleton] at hr;subst hr;rfl) (by simp;omega) (by simp) fun x' G6 h6 hn6 _=>?_
       simp only at hn6
       have h6o:∀ m,m < H.next+4->G6.obj m=G.obj m:=fun m hm=>h6.ob m hm
       have g5:G6.obj (H.next+1)=some (.box [.gm H.next]):=by rw [h6o _ (by omega)];exact hgrp.o5
       have gi:G6.obj H.next=some (.map (inE ks2 F)):=by rw [h6o _ (by omega)];exact hgrp.oi
       have g11:G6.obj (H.next+3)=some (.box [.gm (H.next+2)]):=by rw [h6o _ (by omega)];exact hgrp.o11
       have gd:G6.obj (H.next+2)=some (.map (doneE D)):=by rw [h6o _ (by omega)];exact c4
       have h7:OwnX 94 1 (H.next+4) x' ((outL ++ [F e]).map rT) G6:=by
        have:=OwnX.of (B:=⟨G.obj,H.next+4⟩) rfl h6
        rw [List.map_append];exact this
       have hset6:∀ X Y,(G6.set (H.next+2) X).set (H.next+2) Y=G6.set (H.next+2) Y:=fun X Y=>GH.set_set
       have hg60:G6.set (H.next+2) (.map (doneE D))=G6:=GH.set_id gd
       simp [h6.plain.all,g5,gi,hgi,hki,hrow]
       refine AW.loopS cc (fun a:Nat=>⟨[(1,.ip ((rProg p).map .d) 0),(5,.gp (H.next+1) 0),(11,.gp (H.next+3) 0),(12,.fn (.func 121) [] [.ip ((rProg p).map .d) 0,.gp (H.next+3) 0,.gp (H.next+1) 0]),(13,x'),(81,rowN (F e)),(82,lvI (F e).length),(83,lvI a)],[],G6.set (H.next+2) (.map (doneE (addAll D ((F e).take a))))⟩) (fun a=>(F e).length - a)
        (fun a=>a<=(F e).length) 0 ⟨Nat.zero_le _,by simp [rProg,h6.only,hrow,addAll,hg60,hal,natI,rowN]⟩ ?_
       intro j hj
       have hwj:=wrap_succ (n:=9223372036854775807) (show j < 9223372036854775807 by omega)
       simp [rowN]
       refine ⟨fun h3=>?_,fun h3=>?_⟩
       ·have hj':j < (F e).length:=by simpa [natI] using h3
        obtain ⟨k,hk⟩:∃ k,(F e)[j]=k:=⟨_,rfl⟩
        have htk2:(F e).take (j+1)=(F e).take j ++ [k]:=by rw [<- take_more hj',hk]
        have hgk:(natI (F e))[j]?=some (k:Int):=by simp [natI,List.getElem?_eq_getElem hj',hk]
        have hput:=done_put (addAll D ((F e).take j)) (addAll_nodup c1) k
        rw [<- addAll_snoc,<- htk2] at hput
        have hkd:=eq_true (esI_key (natI (addAll D ((F e).take j))) fun _=>LV.d (.k (.bool true)))
        have hde:doneE (addAll D ((F e).take j))=esI (natI (addAll D ((F e).take j))) fun _=>LV.d (.k (.bool true)):=rfl
        rw [<- hde] at hkd
        have gg11:∀ X,(G6.set (H.next+2) X).obj (H.next+3)=some (.box [.gm (H.next+2)]):=fun X=>by rw [GH.set_obj,if_neg (by omega)];exact g11
        have ggd:∀ X,(G6.set (H.next+2) X).obj (H.next+2)=some X:=fun X=>GH.set_same
        simp [hgk,rI,gg11,ggd,hkd,hput,hset6]
        exact ⟨by simpa [natI] using hj',NX.go (j+1) (by omega) hj' (by simp [rProg,h6.only,rowN,hwj])⟩
       ·have e1:j=(F e).length:=by
         have:¬ j < (F e).length:=by simpa [natI] using h3
         omega
        rw [e1,List.take_length]
        have heD:e ∉ D:=by
         unfold readyM at hq
         simp only [Bool.and_eq_true,Bool.not_eq_true'] at hq
         simpa using hq.1
        have hes:e ∈ F e:=by rw [<- hF];exact inM_self h2
        have hlt:=addAll_len (l:=F e) hes heD
        have hfind:(List.range n).find? (readyM n R D)=some e:=by
         rw [List.find?_range_eq_some]
         exact ⟨hq,List.mem_range.2 h2,fun k hk=>by rw [hnr k hk];rfl⟩
        obtain ⟨f',rfl⟩:∃ f',f=f' + 1:=⟨f - 1,by omega⟩
        rw [groupsGo,if_pos h,hfind] at c7
        simp only at c7
        rw [hF] at c7
        refine NX.go (addAll D (F e),x',G6.set (H.next+2) (.map (doneE (addAll D (F e))))) (by simp only;omega) ⟨addAll_nodup c1,fun k hk=>?_,by simp only [GH.set_next];omega,GH.set_same,fun m hm hne=>by simp only;rw [GH.set_obj,if_neg hne,h6o m hm];exact c5 m hm hne,outL ++ [F e],f',by simp only;omega,by rw [List.append_assoc];exact c7,by simp only [List.length_append,List.length_cons,List.length_nil];omega,h7.keep (by rw [GH.set_next];exact Nat.le_refl _) fun m hm _=>by rw [GH.set_obj,if_neg (by omega)]⟩ (by simp [rProg,h6.only])
        simp only at hk
        rcases addAll_mem.1 hk with hk | hk
        ·exact c2 k hk
        ·rw [<- hF] at hk;exact inM_lt h2 hk
     ·obtain ⟨e',he'⟩:=ready_find ht c1 c2 h
      have h3:=List.find?_some he'
      have h4:=List.mem_range.1 (List.mem_of_find?_eq_some he')
      rw [hnr e' (by omega)] at h3
      cases h3
    ·have hgo:groupsGo n R f D=[]:=by
      cases f with
      | zero=>rfl
      | succ f=>rw [groupsGo,if_neg (by omega)]
     rw [hgo,List.append_nil] at c7
     refine AW.ev cc ?_
     simp [c9.plain.all,c9.fz,c7]
     exact fun _=>Drop_same (by omega) (fun m hm=>by rw [c5 m (by omega) (by omega),l2 m (by omega)];exact Bl m hm) hw.none
end Go.Aft
end
section
set_option maxRecDepth 20000
namespace Go.Aft
open Go.Proofs.Tryz
structure MapS (es:List (Value × LV)) (names:List Str) (f:Nat->LV):Prop where
 key:∀ (a:Value) (b:LV),(a,b) ∈ es->(KK.sc Sc.str).has a=true
 get:∀ name,0<=idx names name->mfind (.string name) es=some (f (idx names name).toNat)
def bagL (b:Bag):LV:=sl (b.map rItem)
structure Wld (H:GH) (n ms mn mv ma:Nat) (p:Prog) (W:World'):Prop where
 ob:H.obj n=some (.box [sl (p.srcs.map rS),sl (p.defs.map rDef),.gm ms,.gm mn,.vs mv 0 1 0 W.defs.length,.gm ma])
 os:∃ es,H.obj ms=some (.map es)/\MapS es p.srcs fun i=>bagL (W.srcs.getD i [])
 on:∃ es,H.obj mn=some (.map es)/\MapS es (defNames p) fun i=>lvI i
 ov:H.obj mv=some (.vec 30 0 1 (W.defs.map bagL) true)
 dl:W.defs.length=p.defs.length
abbrev kidsL (ks:List Bag):LV:=sl (ks.map rBag)
theorem Drop_self {H:GH} (hz:nbH H):Drop H H H:=Drop_same (Nat.le_refl _) (fun _ _=>rfl) hz.none
theorem world_source {H:GH} {n ms mn mv ma:Nat} {p:Prog} {W:World'} (hW:Wld H n ms mn mv ma p W) (e:Exp) (ks:List Bag) (he:0<=idx p.srcs e.name) :
  ECall prog 185 [.gp n 0,lv (rExp e),kidsL ks] H fun ce H'=>ce=.ret (bagL (W.srcs.getD (idx p.srcs e.name).toNat []))/\H'=H:=by
 have cc:=cxK_ok (p:=kds [4] [] [])
 obtain ⟨ob,⟨es,os,hes⟩,on,ov,dl⟩:=hW
 refine ECall.bodyN (cxK_ok (p:=kds [4] [] [])) func185 rfl call185 (by rw [ntmps185];simp) rfl fun hf hw=>?_
 simp [ntmps185,results185,rExp_eq]
 refine AW.draw cc [] (.q 0<|.q 1<|.q 2<|.q 4<|.q 3<|.q 5<|.q 6<|.q 7<|.done) (by kernel_rfl) ?_
 have hkey:=eq_true hes.key
 have hget:=hes.get e.name he
 simp [ob,os,rExp_eq,hkey,hget,bagL]
 exact fun hz=>Drop_self hz
theorem world_ref {H:GH} {n ms mn mv ma:Nat} {p:Prog} {W:World'} (hW:Wld H n ms mn mv ma p W) (e:Exp) (ks:List Bag) (he:0<=idx (defNames p) e.name) :
  ECall prog 186 [.gp n 0,lv (rExp e),kidsL ks] H fun ce H'=>ce=.ret (bagL (W.defs.getD (idx (defNames p) e.name).toNat []))/\H'=H:=by
 have cc:=cxK_ok (p:=kds [4] [] [])
 obtain ⟨ob,os,⟨es,on,hes⟩,ov,dl⟩:=hW
 refine ECall.bodyN (cxK_ok (p:=kds [4] [] [])) func186 rfl call186 (by rw [ntmps186];simp) rfl fun hf hw=>?_
 simp [ntmps186,results186,rExp_eq]
 refine AW.draw cc [] (.q 0<|.q 1<|.q 2<|.q 4<|.q 5<|.q 6<|.q 8<|.q 3<|.q 7<|.q 9<|.q 10<|.q 11<|.q 12<|.q 13<|.done) (by kernel_rfl) ?_
 have hkey:=eq_true hes.key
 have hget:=hes.get e.name he
 have hlt:(idx (defNames p) e.name).toNat < W.defs.length:=by
  have:=idx_lt (defNames p) e.name
  have h2:(defNames p).length=p.defs.length:=by simp [defNames]
  omega
 have hmx:max (idx (defNames p) e.name) 0=idx (defNames p) e.name:=by omega
 have hlt2:idx (defNames p) e.name < W.defs.length:=by omega
 simp [ob,on,ov,rExp_eq,hkey,hget,bagL,hmx,hlt,hlt2,he]
 exact fun hz=>Drop_self hz
def ItIn (x:Item):Prop:=(0<=x.rec_.at_/\x.rec_.at_<=200)/\inMost x.rec_.key/\inMost x.rec_.val/\(1<=x.n/\x.n<=1000000)
def BagOk (b:Bag):Prop:=IncB b/\b.length<=300/\∀ x ∈ b,ItIn x
theorem world_prev {H:GH} {n ms mn mv ma:Nat} {p:Prog} {W:World'} (hW:Wld H n ms mn mv ma p W) (e:Exp) (ks:List Bag) (he:0<=idx (defNames p) e.name) (hn:-50<=e.n/\e.n<=50) (hb:∀ b ∈ W.defs,BagOk b) :
  ECall prog 187 [.gp n 0,lv (rExp e),kidsL ks] H fun ce H'=>ce=.ret (bagL (laterM e.n (W.defs.getD (idx (defNames p) e.name).toNat [])))/\H'=H:=by
 have cc:=cxK_ok (p:=kds [4] [] [])
 obtain ⟨ob,os,⟨es,on,hes⟩,ov,dl⟩:=hW
 refine ECall.bodyN (cxK_ok (p:=kds [4] [] [])) func187 rfl call187 (by rw [ntmps187];simp) rfl fun hf hw=>?_
 simp [ntmps187,results187,rExp_eq]
 refine AW.draw cc [(15,.n)] (.q 0<|.q 1<|.q 2<|.q 4<|.q 5<|.q 6<|.q 8<|.q 13<|.q 3<|.q 7<|.q 9<|.q 10<|.q 11<|.q 12<|.q 14<|.q 15<|.q 16<|.done) (by kernel_rfl) ?_
 have hkey:=eq_true hes.key
 have hget:=hes.get e.name he
 have hlt:(idx (defNames p) e.name).toNat < W.defs.length:=by
  have:=idx_lt (defNames p) e.name
  have h2:(defNames p).length=p.defs.length:=by simp [defNames]
  omega
 have hmx:max (idx (defNames p) e.name) 0=idx (defNames p) e.name:=by omega
 have hlt2:idx (defNames p) e.name < W.defs.length:=by omega
 obtain ⟨b,hbe⟩:∃ b,W.defs[(idx (defNames p) e.name).toNat]=b:=⟨_,rfl⟩
 have hbo:BagOk b:=hb b (hbe ▸ List.getElem_mem hlt)
 have hl:=mean_later b e.n (by have:=hbo.2.1;omega) (fun x hx=>by have:=(hbo.2.2 x hx).1;omega)
 simp at hl
 simp [ob,on,ov,rExp_eq,hkey,hget,bagL,hmx,hlt,hlt2,he,hbe]
 refine FC.afun hl ?_
 simp
 exact fun hz=>⟨Drop_self hz,by simp [bagL,List.getElem?_eq_getElem hlt,hbe]⟩
theorem world_shift (n:Nat) (e:Exp) (a:Bag) (ha:BagOk a) (hn:-50<=e.n/\e.n<=50):AFun prog 191 [.gp n 0,lv (rExp e),kidsL [a]] (bagL (laterM e.n a)):=by
 refine AFun.body (cxK_ok (p:=kds [4] [] [])) func191 rfl call191 (by rw [ntmps191];simp) rfl fun hf H=>?_
 have cc:=cxK_ok (p:=kds [4] [] [])
 have hl:=mean_later a e.n (by have:=ha.2.1;omega) (fun x hx=>by have:=(ha.2.2 x hx).1;omega)
 simp at hl
 simp [ntmps191,results191,rExp_eq]
 refine AW.draw cc [(5,.n)] (.q 0<|.q 1<|.q 3<|.q 2<|.q 4<|.q 5<|.q 6<|.done) (by kernel_rfl) ?_
 simp [rExp_eq,rBag]
 refine FC.afun hl ?_
 simp [bagL]
theorem world_once (n:Nat) (e:Exp) (a:Bag) (ha:BagOk a) (H:GH):ECall prog 199 [.gp n 0,lv (rExp e),kidsL [a]] H fun ce H'=>ce=.ret (bagL (onceM a))/\H'=H:=by
 have hl:=mean_changed (fun x=>⟨x.rec_,1⟩) a (by have:=ha.2.1;omega) 235 [] H (by simp [nbs]) (fun x hx=>(mean_once1 x).keeps H)
 refine ECall.bodyN (cxK_ok (p:=kds [4] [] [])) func199 rfl call199 (by rw [ntmps199];simp) rfl fun hf hw=>?_
 simp at hl
 simp [ntmps199,results199,rExp_eq,rBag]
 refine EC.of hl (fun v H2 hR=>?_) (fun v H2 hR=>by cases hR.1)
 obtain ⟨q,rfl⟩:=hR
 cases q
 simp [bagL,onceM]
 exact fun hz=>Drop_self hz
end Go.Aft
end
section
set_option maxRecDepth 20000
namespace Go.Aft
open Go.Proofs.Tryz
theorem row_it {k:Int} {a:Bag} (ha:BagOk a) {x:Item} (hx:x ∈ rowOf k a):ItIn x:=ha.2.2 x (row_mem hx).1
theorem incT_of {a:List Item} (h:IncB a):IncT a:=by
 refine List.Pairwise.imp (fun {x y} q=>?_) h
 simp only [recLt,decide_eq_true_eq] at q;omega
theorem row_incT {k:Int} {a:Bag} (ha:BagOk a):IncT (rowOf k a):=(incT_of ha.1).filter _
theorem bag_itOk {a:Bag} (ha:BagOk a):∀ x ∈ a,itOk x:=fun x hx=>by
 obtain ⟨_,_,h3,h4⟩:=ha.2.2 x hx
 exact ⟨by omega,h3⟩
theorem group_bd {n:Int} (hn:1<=n/\n<=50) {l:List Item} {t lo hi:Int} (ht:0<=t/\t<=200) (h:groupS n l t=some (lo,hi)):0<=hi/\hi<=1000:=by
 simp only [groupS,Option.some.injEq,Prod.mk.injEq] at h
 have h1:=Int.tmod_add_mul_tdiv t n
 have h2:0<=t.tmod n:=Int.tmod_nonneg _ ht.1
 have h3:0<=t.tdiv n:=Int.tdiv_nonneg ht.1 (by omega)
 have h4:0<=t.tdiv n * n:=Int.mul_nonneg h3 (by omega)
 rw [Int.mul_comm] at h1
 omega
theorem ipE_nb (e:Exp):∀ m,nbs m [ipE e]:=fun m=>by simp [nbs,LV.nb,ipE,rExp_eq]
abbrev PermR (l:List Item) (H:GH) (ce:CE) (H':GH):Prop:=(∃ l':List Item,l'.Perm l/\ce=.ret (bagL l'))/\H'=H
theorem world_group (n:Nat) (e:Exp) (a:Bag) (ha:BagOk a) (hn:1<=e.n/\e.n<=50) (H:GH):ECall prog 192 [.gp n 0,lv (rExp e),kidsL [a]] H (PermR (spansM e.fold 0 (groupS e.n) a) H):=by
 have cc:=cxK_ok (p:=kds [4] [] [])
 have hs:=mean_spans e a 229 [ipE e] (ipE_nb e) (groupS e.n) 0 ha.2.1 (bag_itOk ha) (fun k x hx=>mean_group1 e _ _ hn (row_it ha hx).1) (fun k x hx lo hi=>group_bd hn (row_it ha hx).1) (by omega) H
 refine ECall.bodyN (cxK_ok (p:=kds [4] [] [])) func192 rfl call192 (by rw [ntmps192];simp) rfl fun hf hw=>?_
 simp [ipE,rExp_eq] at hs
 simp [ntmps192,results192,rExp_eq]
 refine AW.draw cc [] (.q 1<|.q 2<|.q 4<|.q 0<|.q 3<|.f<|.one 5<|.q 6<|.done) (by kernel_rfl) ?_
 simp [rExp_eq,rBag]
 refine ECn.of hs (fun v H2 hR _=>?_) (fun x H2 env hR _=>by obtain ⟨⟨_,_,q⟩,_⟩:=hR;cases q)
 obtain ⟨⟨l',hp,q⟩,rfl⟩:=hR
 cases q
 simp [bagL]
 exact fun hz=>⟨Drop_self hz,l',hp,rfl⟩
theorem world_slide (n:Nat) (e:Exp) (a:Bag) (ha:BagOk a) (hn:0<=e.n/\e.n<=50) (H:GH):ECall prog 193 [.gp n 0,lv (rExp e),kidsL [a]] H (PermR (spansM e.fold 0 (slideS e.n) a) H):=by
 have cc:=cxK_ok (p:=kds [4] [] [])
 have hs:=mean_spans e a 230 [ipE e] (ipE_nb e) (slideS e.n) 0 ha.2.1 (bag_itOk ha) (fun k x hx=>mean_slide1 e _ _ hn (row_it ha hx).1) (fun k x hx lo hi h=>by have:=(row_it ha hx).1;simp only [slideS,Option.some.injEq,Prod.mk.injEq] at h;omega) (by omega) H
 refine ECall.bodyN (cxK_ok (p:=kds [4] [] [])) func193 rfl call193 (by rw [ntmps193];simp) rfl fun hf hw=>?_
 simp [ipE,rExp_eq] at hs
 simp [ntmps193,results193,rExp_eq]
 refine AW.draw cc [] (.q 1<|.q 2<|.q 4<|.q 0<|.q 3<|.f<|.one 5<|.q 6<|.done) (by kernel_rfl) ?_
 simp [rExp_eq,rBag]
 refine ECn.of hs (fun v H2 hR _=>?_) (fun x H2 env hR _=>by obtain ⟨⟨_,_,q⟩,_⟩:=hR;cases q)
 obtain ⟨⟨l',hp,q⟩,rfl⟩:=hR
 cases q
 simp [bagL]
 exact fun hz=>⟨Drop_self hz,l',hp,rfl⟩
theorem world_total (n:Nat) (e:Exp) (a:Bag) (ha:BagOk a) (H:GH):ECall prog 194 [.gp n 0,lv (rExp e),kidsL [a]] H (PermR (spansM e.fold 0 totalS a) H):=by
 have cc:=cxK_ok (p:=kds [4] [] [])
 have hs:=mean_spans e a 231 [] (by simp [nbs]) totalS 0 ha.2.1 (bag_itOk ha) (fun k x hx=>mean_total1 _ _) (fun k x hx lo hi h=>by have:=(row_it ha hx).1;simp only [totalS,Option.some.injEq,Prod.mk.injEq] at h;omega) (by omega) H
 refine ECall.bodyN (cxK_ok (p:=kds [4] [] [])) func194 rfl call194 (by rw [ntmps194];simp) rfl fun hf hw=>?_
 simp [ipE,rExp_eq] at hs
 simp [ntmps194,results194,rExp_eq]
 refine AW.draw cc [] (.q 1<|.q 2<|.q 0<|.q 3<|.f<|.one 4<|.q 5<|.done) (by kernel_rfl) ?_
 simp [rExp_eq,rBag]
 refine ECn.of hs (fun v H2 hR _=>?_) (fun x H2 env hR _=>by obtain ⟨⟨_,_,q⟩,_⟩:=hR;cases q)
 obtain ⟨⟨l',hp,q⟩,rfl⟩:=hR
 cases q
 simp [bagL]
 exact fun hz=>⟨Drop_self hz,l',hp,rfl⟩
theorem rest_bd {n:Int} {l:List Item} {t lo hi:Int} (ht:0<=t/\t<=200) (h:restS n l t=some (lo,hi)):0<=hi/\hi<=1000:=by
 unfold restS at h
 split at h
 ·simp only [Option.some.injEq,Prod.mk.injEq] at h;omega
 ·cases h
theorem world_rest (n:Nat) (e:Exp) (a:Bag) (ha:BagOk a) (hn:1<=e.n/\e.n<=50) (H:GH):ECall prog 195 [.gp n 0,lv (rExp e),kidsL [a]] H (PermR (spansM e.fold e.n (restS e.n) a) H):=by
 have cc:=cxK_ok (p:=kds [4] [] [])
 have hs:=mean_spans e a 232 [ipE e] (ipE_nb e) (restS e.n) e.n ha.2.1 (bag_itOk ha) (fun k x hx=>mean_rest1 e _ _ hn (row_it ha hx).1 (row_incT ha) (fun y hy=>(row_it ha hy).1)) (fun k x hx lo hi=>rest_bd (row_it ha hx).1) (by omega) H
 refine ECall.bodyN (cxK_ok (p:=kds [4] [] [])) func195 rfl call195 (by rw [ntmps195];simp) rfl fun hf hw=>?_
 simp [ipE,rExp_eq] at hs
 simp [ntmps195,results195,rExp_eq]
 refine AW.draw cc [] (.q 1<|.q 2<|.q 4<|.q 5<|.q 0<|.q 3<|.q 6<|.f<|.one 7<|.q 8<|.done) (by kernel_rfl) ?_
 simp [rExp_eq,rBag]
 refine ECn.of hs (fun v H2 hR _=>?_) (fun x H2 env hR _=>by obtain ⟨⟨_,_,q⟩,_⟩:=hR;cases q)
 obtain ⟨⟨l',hp,q⟩,rfl⟩:=hR
 cases q
 simp [bagL]
 exact fun hz=>⟨Drop_self hz,l',hp,rfl⟩
theorem it_rec {x:Item} (h:ItIn x):recIn x.rec_:=⟨⟨by have:=h.1;omega,by have:=h.1;omega⟩,h.2.1,h.2.2.1⟩
theorem world_where (n:Nat) (e:Exp) (c:Calc) (a:Bag) (ha:BagOk a) (hc:e.calcs=[c]) (hv:VOk c):AFun prog 189 [.gp n 0,lv (rExp e),kidsL [a]] (bagL (whereM c a)):=by
 have cc:=cxK_ok (p:=kds [4] [] [])
 intro H
 refine ECall.bodyN (cxK_ok (p:=kds [4] [] [])) func189 rfl call189 (by rw [ntmps189];simp) rfl fun hf hw=>?_
 have hvo:=mean_valueOf hv
 simp [rCalc_eq] at hvo
 have hal:=ha.2.1
 simp [ntmps189,results189,rExp_eq,hc,rBag,rCalc_eq]
 refine EC.afun hvo ?_
 simp [vFn]
 refine AW.loopS cc (fun s:Nat × LV × GH=>⟨[(7,vFn c),(8,s.2.1),(18,sl (a.map rItem)),(19,lvI a.length),(20,lvI s.1)],[],s.2.2⟩) (fun s=>a.length - s.1)
  (fun s=>s.1<=a.length/\AppX 86 4 H s.2.1 ((whereM c (a.take s.1)).map rItem) s.2.2) (0,.d (.k (.slice none 0 0)),H) ⟨⟨Nat.zero_le _,by simpa [whereM] using AppX.nil⟩,by simp [vFn,nbs_only _ (vClos_nb hv 0)]⟩ ?_
 rintro ⟨i,y,H2⟩ ⟨hi,happ⟩
 simp only at hi happ
 simp
 refine ⟨fun h=>?_,fun h=>?_⟩
 ·obtain ⟨x,hxe⟩:∃ x,a[i]=x:=⟨_,rfl⟩
  have htk:a.take (i+1)=a.take i ++ [x]:=by rw [<- take_more h,hxe]
  have hxi:=ha.2.2 x (hxe ▸ List.getElem_mem h)
  have hcv:=vClos_val (it_rec hxi) (o:=0) (by unfold inMost;omega) hv
  have hw':=wrap_succ (n:=9223372036854775807) (show i < 9223372036854775807 by omega)
  simp [rRec] at hcv
  simp [h,List.getElem?_eq_getElem h,hxe,rItem,vFn]
  refine ⟨vClos_nb hv _,EC.afun hcv ?_⟩
  simp [happ.plain.all]
  have hwm:whereM c (a.take (i+1))=whereM c (a.take i) ++ (if cVal x.rec_ 0 c ≠ 0 then [x] else []):=by
   rw [htk];unfold whereM;rw [List.filter_append,List.filter_cons]
   by_cases q:cVal x.rec_ 0 c=0 <;> simp [q]
  have hwl:(whereM c (a.take i)).length<=300:=Nat.le_trans (List.length_filter_le _ _) (by simp;omega)
  refine ⟨fun q=>?_,fun q=>?_⟩
  ·refine APK.appX (ys:=[rItem x]) tyE29 rfl tyE86 (by simp) (x:=y) (by simp) happ (by simp [rItem,rowsOf]) (by simp) (rItem_all _) (fun r hr=>by simp only [List.mem_singleton] at hr;subst hr;rfl) (by simp;omega) (by simp) fun x' H3 happ' _ _=>?_
   simp [happ'.plain.all,happ'.only,hw']
   refine NX.go (i+1,x',H3) (by simp only;omega) ⟨h,?_⟩ (by simp [happ'.only,vFn,nbs_only _ (vClos_nb hv 0)])
   rw [hwm,if_pos q,List.map_append];exact happ'
  ·rw [if_neg (by simpa using q),List.append_nil] at hwm
   exact NX.go (i+1,y,H2) (by simp only;omega) ⟨h,by rw [hwm];exact happ⟩ (by simp [happ.only,vFn,nbs_only _ (vClos_nb hv 0),hw'])
 ·have:i=a.length:=by omega
  subst this
  rw [List.take_length] at happ
  simp [happ.plain.all,happ.fz,bagL]
  exact fun hz=>Drop_same happ.nx happ.ob hw.none
theorem each1 {k v:Calc} (hk:VOk k) (hv:VOk v) (x:Item) (hx:ItIn x) {m1 m2:Nat} {H:GH} (l1:m1 < H.next) (l2:m2 < H.next) (o1:H.obj m1=some (.box [vFn k])) (o2:H.obj m2=some (.box [vFn v])) :
  Keeps prog 227 ([lv (rItem x)] ++ [.gp m1 0,.gp m2 0]) H (lv (rItem ⟨⟨x.rec_.at_,cVal x.rec_ 0 k,cVal x.rec_ 0 v⟩,x.n⟩)):=by
 intro H' hn ho
 have cc:=cxK_ok (p:=kds [3] [] [])
 refine ECall.bodyN (cxK_ok (p:=kds [3] [] [])) func227 rfl call227 (by rw [ntmps227];simp) rfl fun hf hw=>?_
 have o1':H'.obj m1=some (.box [vFn k]):=by rw [ho _ l1];exact o1
 have o2':H'.obj m2=some (.box [vFn v]):=by rw [ho _ l2];exact o2
 have h1:=vClos_val (it_rec hx) (o:=0) (by unfold inMost;omega) hk
 have h2:=vClos_val (it_rec hx) (o:=0) (by unfold inMost;omega) hv
 have hn1:=fun m=>vClos_nb hk m
 have hn2:=fun m=>vClos_nb hv m
 simp [rRec] at h1 h2
 simp [ntmps227,results227,rItem]
 refine AW.draw cc [(6,.n),(10,.n)] (.q 0<|.q 1<|.q 4<|.q 8<|.q 12<|.q 2<|.q 3<|.q 5<|.q 6<|.q 7<|.q 9<|.q 10<|.q 11<|.q 13<|.q 14<|.f<|.one 15<|.done) (by kernel_rfl) ?_
 simp [o1',o2',vFn,rItem]
 refine ⟨hn1 _,FC.afun h1 ?_⟩
 simp [o1',o2',vFn,rItem]
 refine ⟨hn2 _,FC.afun h2 ?_⟩
 simp
 exact fun hz=>⟨Drop_self hz,rfl⟩
theorem world_each (n:Nat) (e:Exp) (k v:Calc) (a:Bag) (ha:BagOk a) (hc:e.calcs=[k,v]) (hk:VOk k) (hv:VOk v) (H:GH):ECall prog 190 [.gp n 0,lv (rExp e),kidsL [a]] H fun ce H'=>ce=.ret (bagL (eachM k v a))/\H'=H:=by
 have cc:=cxK_ok (p:=kds [4] [7,8] [])
 refine ECall.bodyN (cxK_ok (p:=kds [4] [7,8] [])) func190 rfl call190 (by rw [ntmps190];simp) rfl fun hf hw=>?_
 have hvo1:=mean_valueOf hk
 have hvo2:=mean_valueOf hv
 simp [rCalc_eq] at hvo1 hvo2
 simp [ntmps190,results190,rExp_eq,hc]
 refine AW.draw cc [(4,.n),(9,.n)] (.q 0<|.q 5<|.q 1<|.q 2<|.q 3<|.q 4<|.q 6<|.q 7<|.q 8<|.q 9<|.f (.cons 10 (.f<|.one 11<|.f<|.one 12<|.f<|.one 13<|.done) (.cons 11 (.f<|.one 10<|.f<|.one 12<|.f<|.one 13<|.done) (.nil)))) (by kernel_rfl) ?_
 simp [rExp_eq,hc,rCalc_eq]
 refine FC.afun hvo1 ?_
 simp [rExp_eq,hc,rCalc_eq]
 refine FC.afun hvo2 ?_
 have add0:∀ o o':GO,((H.add o).add o').obj H.next=some o:=fun o o'=>by rw [GH.add_obj,GH.add_next,if_neg (by omega),GH.add_obj,if_pos rfl]
 have add1:∀ o o':GO,((H.add o).add o').obj (H.next+1)=some o':=fun o o'=>by rw [GH.add_obj,GH.add_next,if_pos rfl]
 have addn:∀ o:GO,(H.add o).next=H.next+1:=fun o=>rfl
 have adds1:∀ o o' u:GO,((H.add o).add o').set (H.next+1) u=(H.add o).add u:=fun o o' u=>by rw [<- addn o];exact GH.add_set
 have adds0:∀ o o' u:GO,((H.add o).add o').set H.next u=(H.add u).add o':=fun o o' u=>by
  simp only [GH.set,GH.add];congr 1;funext m;unfold upd;split <;> simp_all
 have hn1:=fun m=>vClos_nb hk m
 have hn2:=fun m=>vClos_nb hv m
 simp [rExp_eq,hc,rCalc_eq,vFn,add0,add1,addn,adds0,adds1,hn1,hn2,rBag]
 have hfin:∀ (o o':GO) (m1 m2:Nat),m1 < H.next+2->m2 < H.next+2->((H.add o).add o').obj m1=some (.box [vFn k])->((H.add o).add o').obj m2=some (.box [vFn v]) ->
   ECall prog 226 [.d (.sl (a.map rItem)),.fn (.func 227) [] [.gp m1 0,.gp m2 0]] ((H.add o).add o') fun ce H'=>ce=.ret (.d (.sl ((eachM k v a).map rItem)))/\H'=(H.add o).add o':=fun o o' m1 m2 l1 l2 o1 o2 =>
  mean_changed (fun x=>⟨⟨x.rec_.at_,cVal x.rec_ 0 k,cVal x.rec_ 0 v⟩,x.n⟩) a (by have:=ha.2.1;omega) 227 [.gp m1 0,.gp m2 0] _ (by simp [nbs,LV.nb,GH.add_next];omega) (fun x hx=>each1 hk hv x (ha.2.2 x hx) (by rw [GH.add_next,GH.add_next];omega) (by rw [GH.add_next,GH.add_next];omega) o1 o2)
 refine ⟨⟨⟨by simp only [GH.add_next];omega,by simp only [GH.add_next];omega⟩,EC.of (hfin _ _ _ _ (by omega) (by omega) (add0 _ _) (add1 _ _)) (fun v' H2 hR=>?_) (fun v' H2 hR=>by cases hR.1)⟩,⟨by simp only [GH.add_next];omega,by simp only [GH.add_next];omega⟩,EC.of (hfin _ _ _ _ (by omega) (by omega) (add1 _ _) (add0 _ _)) (fun v' H2 hR=>?_) (fun v' H2 hR=>by cases hR.1)⟩
 all_goals
  obtain ⟨q,rfl⟩:=hR
  cases q
  simp [bagL]
  exact fun _=>Drop_same (by simp only [GH.add_next];omega) (fun m hm=>by rw [GH.add_obj,GH.add_next,if_neg (by omega),GH.add_obj,if_neg (by omega)]) hw.none
end Go.Aft
end
