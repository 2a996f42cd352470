import Derived.Test.YthinedikejlgmaaGreatA51
import Derived.Test.YthinedikejlgmaaGreatA50
import Derived.Test.YthinedikejlgmaaGreatA45
set_option linter.all false
section
set_option maxRecDepth 20000
namespace Go.Aft
open Go.Proofs.Tryz
def flgD (n:Nat) (D:List Nat):List Bool:=(List.range n).map fun k=>D.contains k
@[simp] theorem flgD_len (n:Nat) (D:List Nat):(flgD n D).length=n:=by simp [flgD]
@[simp] theorem flgD_get {n:Nat} {D:List Nat} {k:Nat} (h:k < (bC (flgD n D)).length):(bC (flgD n D))[k]=.d (.k (.bool (decide (k ∈ D)))):=by simp [flgD,bC]
theorem e9d {n:Nat} {D:List Nat} {k:Nat}:(flgD n D).set k true=flgD n (D ++ [k]):=by
 refine List.ext_getElem (by simp) fun j h1 h2=>?_
 rw [List.getElem_set]
 split
 ·rename_i e;subst e;simp [flgD]
 ·rename_i e
  have e':¬ j=k:=fun q=>e q.symm
  simp [flgD,e']
theorem e9e {n:Nat} {D:List Nat} {k:Nat} (h:k < n):List.take k (bC (flgD n D)) ++ LV.d (DV.k (Value.bool true)) :: List.drop (k+1) (bC (flgD n D))=bC (flgD n (D ++ [k])):=by
 rw [<- e9d,bC,bC,List.map_set,List.set_eq_take_append_cons_drop,if_pos (by simpa using h)]
theorem e9f {n:Nat} {D g:List Nat}:flgD n (D ++ g)=flgD n (a2c D g):=by
 unfold flgD
 refine List.map_congr_left fun k _=>?_
 rw [Bool.eq_iff_iff]
 simp [a2f]
def f0f (o:Option Nat):Int:=match o with | none=>-1 | some j=>j
@[simp] theorem bestI_none:f0f none = -1:=rfl
@[simp] theorem bestI_some (j:Nat):f0f (some j)=j:=rfl
def rdTo (R:Nat->Nat->Bool) (D:List Nat) (a j:Nat):Bool:=!D.contains a && (List.range j).all fun k=>!R a k || R k a || D.contains k
theorem e2r {R:Nat->Nat->Bool} {D:List Nat} {a:Nat}:rdTo R D a 0 = !decide (a ∈ D):=by simp [rdTo]
theorem e2s {R:Nat->Nat->Bool} {D:List Nat} {a j:Nat}:rdTo R D a (j+1)=(rdTo R D a j && (!R a j || R j a || decide (j ∈ D))):=by
 unfold rdTo
 rw [List.range_succ,List.all_append]
 simp [Bool.and_assoc]
theorem RK.of {r r':Option Res} {s:S} {dst:Option Nat} {K:KT} (h:r=r') (hk:@RK r' s dst K):@RK r s dst K:=h ▸ hk
theorem c4o (p:Prog) (n:Nat) (R:Nat->Nat->Bool) (hn:p.defs.length=n) (h6:n<=6) (ht:∀ i j k,R i j=true->R j k=true->R i k=true) (h130:AFun prog 130 [lv (a0h p)] (sl ((mat n R).map rR)))
  (h128:AFun prog 128 [lv (a0h p)] (sl ((a2s n R).map rT))):AFun prog 67 [lv (a0h p)] (sl ((ordM n R).map rT)):=by
 have cc:=a0g (p:=kds [1] [] [44])
 intro H
 refine a0j.a3a (a0g (p:=kds [1] [] [44])) func67 rfl call67 (by rw [ntmps67];simp) rfl fun hf hw=>?_
 simp [a0h] at h130 h128
 have hrow:∀ i,i < n->((mat n R).map rR)[i]?=some (rR ((List.range n).map fun j=>R i j)):=fun i hi=>by simp [mat,List.getElem?_range hi]
 have hcell:∀ i j,j < n->(((List.range n).map fun j=>R i j).map rB)[j]?=some (rB (R i j)):=fun i j hj=>by simp [List.getElem?_range hj]
 have hln:(mat n R).length=n:=by simp [mat]
 have hrl:(a2s n R).length<=n:=by
  have h1:=c8x (n:=n) (R:=R) ht
  unfold a7o at h1;rw [List.length_append] at h1;omega
 obtain ⟨M,hM⟩:∃ M,(mat n R).map rR=M:=⟨_,rfl⟩
 rw [hM] at hrow h130
 have hlM:M.length=n:=by rw [<- hM];simpa using hln
 have hrow2:∀ i (hi:i < M.length),M[i]=rR ((List.range n).map fun j=>R i j):=fun i hi=>by
  have:=hrow i (by omega)
  rw [List.getElem?_eq_getElem hi] at this
  exact Option.some.inj this
 simp [ntmps67,results67,a0h] at hf |-
 refine AW.seq cc ?_
 simp
 refine AW.seq cc ?_
 refine AW.draw cc [(1,.n),(3,.n)] (.q 0<|.q 1<|.q 2<|.q 3<|.q 4<|.q 5<|.done) (by kernel_rfl) ?_
 simp
 refine FC.afun h130 ?_
 simp
 refine FC.afun h128 ?_
 simp
 refine AW.seq cc ?_
 simp
 refine APK.appX (ys:=(a2s n R).map rT) (H0:=H) (rows:=[]) (x:=.d (.k (.slice none 0 0))) tyE44 rfl tyE94 (by simp) (by simp) AppX.nil (by simp [rowsOf]) (by simp) (by simp) (fun r hr=>by obtain ⟨_,_,rfl⟩:=List.mem_map.1 hr;rfl) (by simp;omega) (by simp) fun x0 H1 happ0 _ _=>?_
 simp [happ0.plain.all]
 refine AW.seq cc ?_
 simp
 refine AW.e0i cc (fun a:Nat × LV × GH=>⟨[(1,.ip ((a0h p).map .d) 0),(3,.d (.sl M)),(5,a.2.1),(6,lvI a.1)],[],a.2.2⟩) (fun a=>n - a.1)
  (fun a=>a.1<=n/\AppX 94 1 H a.2.1 ((a2s n R ++ ((List.range a.1).filter fun d=>!R d d).map fun d=>[d]).map rT) a.2.2) (0,x0,H1) ⟨⟨by simp,by simpa using happ0⟩,by simp [happ0.only,a0h]⟩ ?_
 rintro ⟨i,x,H2⟩ ⟨hi,happ⟩
 simp only at hi happ
 refine AW.seq cc ?_
 simp [a0h,hn]
 refine ⟨fun h=>?_,fun h=>?_⟩
 ·have hi2:i < 1000000:=by omega
  have hrng:List.range (i+1)=List.range i ++ [i]:=List.range_succ
  have hfl:=List.length_filter_le (fun d=>!R d d) (List.range i)
  rw [List.length_range] at hfl
  refine AW.ev cc ?_
  simp [hrow i h,hcell i i h,rR,rB,h]
  refine ⟨by omega,fun q=>⟨happ.plain.unP,?_⟩,fun q=>?_⟩
  ·refine APK.appX (ys:=[rT [i]]) tyE44 rfl tyE94 (by simp) (x:=x) (by simp [happ.plain.un]) happ (by simp [rowsOf,rT,rI]) (by simp) (fun r hr=>by obtain ⟨_,_,rfl⟩:=List.mem_map.1 hr;rfl) (by simp [rT]) (by simp;omega) (by simp) fun x2 H4 h4 _ _=>?_
   simp [h4.plain.all]
   refine NX.go (i+1,x2,H4) (by simp only;omega) ⟨h,?_⟩ (by simp [h4.only,wrap_succ hi2,a0h])
   rw [hrng,List.filter_append]
   simpa [q] using h4
  ·refine NX.go (i+1,x,H2) (by simp only;omega) ⟨h,?_⟩ (by simp [happ.only,wrap_succ hi2,a0h])
   rw [hrng,List.filter_append]
   simpa [q] using happ
 ·have hin:i=n:=by omega
  subst hin
  have hG0:a2s i R ++ ((List.range i).filter fun d=>!R d d).map (fun d=>[d])=a7o i R:=rfl
  rw [hG0] at happ
  obtain ⟨GS,hGS⟩:∃ GS,a7o i R=GS:=⟨_,rfl⟩
  rw [hGS] at happ
  have hgl:=c8x (n:=i) (R:=R) ht
  rw [hGS] at hgl
  refine AW.fzT 5 (AW.seq cc ?_)
  simp [happ.fz,a0h,hn]
  refine ⟨by omega,?_⟩
  refine AW.seq cc ?_
  simp
  refine AW.seq cc ?_
  simp
  obtain ⟨nv,hnv⟩:∃ nv,H2.next=nv:=⟨_,rfl⟩
  have hrep:repL i [LV.d (DV.k (Value.bool false))]=bC (flgD i []):=by simp [repL,bC,flgD,List.map_const',Function.comp_def]
  rw [hrep,hnv]
  have hB:∀ D:List Nat,(H2.add (.vec 4 0 1 (bC (flgD i D)) true)).next=nv+1/\(H2.add (.vec 4 0 1 (bC (flgD i D)) true)).obj nv=some (.vec 4 0 1 (bC (flgD i D)) true):=fun D=>⟨by rw [GH.a0a,hnv],by rw [GH.a0b,hnv,if_pos rfl]⟩
  refine AW.e0i cc (fun a:List (List Nat) × LV × List Nat × GH=>⟨[(1,.ip ((a0h p).map .d) 0),(3,.d (.sl M)),(5,sl (GS.map rT)),(7,.vs nv 0 1 0 i),(8,a.2.1)],[],a.2.2.2⟩) (fun a=>GS.length - a.1.length)
   (fun a=>AppX 94 1 (H2.add (.vec 4 0 1 (bC (flgD i a.2.2.1)) true)) a.2.1 (a.1.map rT) a.2.2.2/\a6z i R a.2.2.1/\a.2.2.1.Nodup/\a.1.length+cntG i R a.2.2.1=GS.length/\a.1 ++ c1i i R (cntG i R a.2.2.1) a.2.2.1=ordM i R)
   ([],.d (.k (.slice none 0 0)),[],H2.add (.vec 4 0 1 (bC (flgD i [])) true)) ⟨⟨.nil,e1d ht,.nil,by rw [d7j ht,hGS];simp,by rw [d7j ht];rfl⟩,by simp [a0h]⟩ ?_
  rintro ⟨out,x8,D,H3⟩ ⟨hap,hcl,hnd,hlen,hord⟩
  simp only at hap hcl hnd hlen hord
  refine AW.seq cc ?_
  simp [a0h]
  have hol:out.length<=GS.length:=by omega
  refine ⟨hap.plain.unP,RK.of (r':=some ⟨True,lvI out.length,.no⟩) ?_ ?_⟩
  ·rcases id hap.is with ⟨e1,rfl⟩ | ⟨nn,_,_,rfl,_⟩
   ·have e2:out=[]:=by simpa using e1
    subst e2;simp
   ·simp
  simp
  refine ⟨fun h=>?_,fun h=>?_⟩
  ·obtain ⟨f,hf1⟩:∃ f,cntG i R D=f+1:=⟨cntG i R D - 1,by omega⟩
   obtain ⟨d,hd1,hbest,hcl',hnd',hc',hgo⟩:=e8a ht hcl hnd hf1
   rw [hGS] at hbest
   have o3:H3.obj nv=some (.vec 4 0 1 (bC (flgD i D)) true):=by rw [hap.ob nv (by rw [(hB D).1];omega)];exact (hB D).2
   obtain ⟨rdy,hrdy⟩:∃ rdy,b5n i R D=rdy:=⟨_,rfl⟩
   rw [hrdy] at hbest
   have hgok:∀ g ∈ GS,(∃ a t,g=a :: t/\a < i)/\(∀ k ∈ g,k < i)/\g.length<=i:=fun g hg=>e8y ht (by rw [hGS];exact hg)
   refine AW.ev cc ?_
   simp
   refine AW.a0w cc (fun b:Nat × Option Nat=>⟨[(1,.ip ((a0h p).map .d) 0),(3,.d (.sl M)),(5,sl (GS.map rT)),(7,.vs nv 0 1 0 i),(8,x8),(9,lvI (f0f b.2)),(10,lvI b.1)],[],H3⟩) (fun b=>GS.length - b.1)
    (fun b=>b.1<=GS.length/\(∀ j,b.2=some j->j < b.1)/\c0f rdy (GS.take b.1)=b.2.bind fun j=>GS[j]?) (0,none) ⟨⟨Nat.zero_le _,(fun j hj=>by cases hj),rfl⟩,by simp [a0h,hap.only]⟩ ?_
   rintro ⟨k,o⟩ ⟨hk,hok,hbk⟩
   simp only at hk hok hbk
   simp [a0h]
   refine ⟨fun hkl=>?_,fun hkl=>?_⟩
   ·obtain ⟨g,hg⟩:∃ g,GS[k]=g:=⟨_,rfl⟩
    obtain ⟨⟨a,t,hat,ha⟩,hgb,hgl2⟩:=hgok g (hg ▸ List.getElem_mem hkl)
    simp [hkl,List.getElem?_eq_getElem hkl,hg,rT,hat,rI,o3,ha,ha]
    have hrd0:=e2r (R:=R) (D:=D) (a:=a)
    have hrd1:=fun j=>e2s (R:=R) (D:=D) (a:=a) (j:=j)
    have hrdn:rdTo R D a i=rdy a:=by rw [<- hrdy];rfl
    obtain ⟨rd,hrd⟩:∃ rd,rdTo R D a=rd:=⟨_,rfl⟩
    rw [hrd] at hrd0 hrd1 hrdn
    refine AW.a0w cc (fun j:Nat=>⟨[(1,.ip ((a0h p).map .d) 0),(3,.d (.sl M)),(5,sl (GS.map rT)),(7,.vs nv 0 1 0 i),(8,x8),(9,lvI (f0f o)),(10,lvI k),(11,lvI a),(12,.d (.k (.bool (rd j)))),(13,lvI j)],[],H3⟩) (fun j=>i - j)
     (fun j=>j<=i) 0 ⟨Nat.zero_le _,by simp [a0h,hap.only,hrd0]⟩ ?_
    intro j hj
    simp [a0h,hn]
    refine ⟨fun hji=>?_,fun hji=>?_⟩
    ·obtain ⟨c,hc⟩:∃ c,rd j=c:=⟨_,rfl⟩
     have hrd2:=hrd1 j
     rw [hc] at hrd2 |-
     simp [hrow a ha,hrow j hji,hrow2,List.getElem?_range ha,List.getElem?_range hji,ha,hlM,rR,rB,o3,hji]
     have hj2:j < 1000000:=by omega
     refine ⟨fun q=>⟨q,fun q2=>⟨q,q2⟩⟩,fun q=>⟨q,fun q2 q3=>⟨q,q2,q3⟩⟩,?_⟩
     refine NX.go (j+1) (by omega) hji ?_
     simp [a0h,hap.only,wrap_succ hj2,hrd2]
    ·have hjn:j=i:=by omega
     subst hjn
     rw [hrdn]
     have hts:GS.take (k+1)=GS.take k ++ [g]:=by rw [<- a0p hkl,hg]
     have hbs:=c3p rdy (GS.take k) g
     rw [<- hts,hbk] at hbs
     have hhd:hdG g=a:=by rw [hat];rfl
     rw [hhd] at hbs
     have hk2:k < 1000000:=by omega
     rcases o with _ | j0
     ·obtain ⟨g0,hg0⟩:∃ g0,GS[0]?=some g0:=⟨_,List.getElem?_eq_getElem (by omega)⟩
      obtain ⟨⟨a0,t0,hat0,_⟩,_,_⟩:=hgok g0 (List.mem_of_getElem? hg0)
      simp [hg0,rT,hat0,rI]
      refine ⟨fun q=>?_,fun q=>?_⟩
      ·refine NX.go (k+1,some k) (by simp only;omega) ⟨hkl,fun j hj=>by cases hj;exact Nat.lt_succ_self _,?_⟩ (by simp [hap.only,a0h,wrap_succ hk2])
       rw [hbs,q];simp [e0k,List.getElem?_eq_getElem hkl,hg]
      ·refine NX.go (k+1,none) (by simp only;omega) ⟨hkl,(fun j hj=>by cases hj),?_⟩ (by simp [hap.only,a0h,wrap_succ hk2])
       rw [hbs,q];simp
     ·have hj0:=hok j0 rfl
      obtain ⟨g0,hg0⟩:∃ g0,GS[j0]?=some g0:=⟨_,List.getElem?_eq_getElem (by omega)⟩
      obtain ⟨⟨a0,t0,hat0,_⟩,_,_⟩:=hgok g0 (List.mem_of_getElem? hg0)
      have hn0:¬ ((j0:Int) < 0):=by omega
      have hhd0:hdG g0=a0:=by rw [hat0];rfl
      have hls:e0k ((some j0).bind fun j=>GS[j]?) g=decide (a < a0):=by simp only [Option.bind_some,hg0,e0k,hhd,hhd0]
      rw [hls] at hbs
      simp [hg0,rT,hat0,rI,hn0]
      refine ⟨fun q=>⟨q,by omega⟩,fun q1 q2=>?_,fun q=>?_⟩
      ·refine NX.go (k+1,some k) (by simp only;omega) ⟨hkl,fun j hj=>by cases hj;exact Nat.lt_succ_self _,?_⟩ (by simp [hap.only,a0h,wrap_succ hk2])
       rw [hbs,q1,decide_eq_true q2];simp [List.getElem?_eq_getElem hkl,hg]
      ·refine NX.go (k+1,some j0) (by simp only;omega) ⟨hkl,fun j hj=>by cases hj;omega,?_⟩ (by simp [hap.only,a0h,wrap_succ hk2])
       rw [hbs,if_neg]
       rw [Bool.and_eq_true]
       rintro ⟨w1,w2⟩
       have:=q w1
       have:=of_decide_eq_true w2
       omega
   ·have hke:k=GS.length:=by omega
    subst hke
    rw [List.take_length,hbest] at hbk
    rcases o with _ | j0
    ·cases hbk
    have hj0:=hok j0 rfl
    obtain ⟨g,hg⟩:∃ g,inM i R d=g:=⟨_,rfl⟩
    rw [hg] at hbk hcl' hnd' hc' hgo
    have hg0:GS[j0]?=some g:=hbk.symm
    obtain ⟨_,hgb,hgl2⟩:=hgok g (List.mem_of_getElem? hg0)
    simp
    have hst:∀ (D':List Nat) (o:GO),(H2.add (.vec 4 0 1 (bC (flgD i D')) true)).set nv o=H2.add o:=fun D' o=>by rw [<- hnv];exact GH.a1v
    refine AW.a0w cc (fun b:Nat × GH=>⟨[(1,.ip ((a0h p).map .d) 0),(3,.d (.sl M)),(5,sl (GS.map rT)),(7,.vs nv 0 1 0 i),(8,x8),(9,lvI (j0:Nat)),(14,lvI b.1)],[],b.2⟩) (fun b=>g.length - b.1)
     (fun b=>b.1<=g.length/\AppX 94 1 (H2.add (.vec 4 0 1 (bC (flgD i (D ++ g.take b.1))) true)) x8 (out.map rT) b.2) (0,H3) ⟨⟨Nat.zero_le _,by simpa using hap⟩,by simp [a0h,hap.only]⟩ ?_
    rintro ⟨k,H4⟩ ⟨hk,hap4⟩
    simp only at hk hap4
    have o4:H4.obj nv=some (.vec 4 0 1 (bC (flgD i (D ++ g.take k))) true):=by rw [hap4.ob nv (by rw [(hB _).1];omega)];exact (hB _).2
    simp [hg0,rT,a0h]
    refine ⟨hj0,fun hkl=>?_,fun hkl=>?_⟩
    ·have hgk:=hgb _ (List.getElem_mem hkl)
     have hk2:k < 1000000:=by omega
     have hts:g.take (k+1)=g.take k ++ [g[k]]:=(a0p hkl).symm
     have hg1:g[k]+1<=i:=hgk
     have hap5:=hap4.set (k:=nv) (by rw [(hB _).1];omega) (.vec 4 0 1 (bC (flgD i (D ++ g.take (k+1)))) true)
     rw [hst] at hap5
     simp [hg0,rT,hkl,List.getElem?_eq_getElem hkl,rI,o4,hgk,hj0,e9e hgk,hg1]
     exact NX.go (k+1,H4.set nv (.vec 4 0 1 (bC (flgD i (D ++ g.take (k+1)))) true)) (by simp only;omega) ⟨hkl,hap5⟩ (by simp [a0h,hap.only,wrap_succ hk2])
    ·have hke:k=g.length:=by omega
     subst hke
     rw [List.take_length,e9f] at hap4
     refine ⟨hap.plain.unP,hj0,?_⟩
     refine APK.appX (ys:=[rT g]) tyE44 rfl tyE94 (by simp) (x:=x8) (by simp [hap.plain.un]) hap4 (by simp [rowsOf,rT]) (by simp) (fun r hr=>by obtain ⟨_,_,rfl⟩:=List.mem_map.1 hr;rfl) (by simp [rT]) (by simp;omega) (by simp) fun x2 H5 h5 _ _=>?_
     simp [h5.plain.all]
     refine NX.go (out ++ [g],x2,a2c D g,H5) (by simp;omega) ⟨by rw [List.map_append];exact h5,hcl',hnd',by simp;omega,?_⟩ (by simp [h5.only,a0h])
     simp only
     rw [hc',<- hord,hf1,hgo]
     simp
  ·have hfe:cntG i R D=0:=by omega
   rw [hfe] at hord
   have hoo:out=ordM i R:=by rw [<- hord];simp [c1i]
   subst hoo
   refine AW.ev cc ?_
   simp [hap.plain.all,hap.fz]
   have hnx:=happ.nx
   have hnx3:=hap.nx
   rw [(hB D).1] at hnx3
   exact fun _=>a0m (by omega) (fun m hm=>by rw [hap.ob m (by rw [(hB D).1];omega),GH.a0b,if_neg (by omega)];exact happ.ob m hm) hw.none
theorem d1l (p:Prog) (hs:∀ s ∈ p.srcs ++ a0d p,a2b s):AFun prog 19 [lv (a0h p)] (orderV p):=by
 refine AFun.body (a0g (p:=kds [1] [] [])) func19 rfl call19 (by rw [ntmps19];simp) rfl fun hf H=>?_
 have h1:=c1z p hs
 simp [a0h] at h1
 simp [ntmps19,results19,a0h]
 refine EC.afun h1 ?_
 by_cases hp:formed p
 ·have g:=a5z hp
  have hr:=b8a g
  have h3:=b7r p g.n6 fun d hd=>Nat.le_trans (g.len d hd) (by omega)
  rw [d4y g] at h3
  have h4:=b2x p (toL p) (b1w p) g.n6 (e1u g) (e1t g) h3
  rw [c2b g] at h4
  have ht:∀ i j k,pathB p i j=true->pathB p j k=true->pathB p i k=true:=fun i j k h1 h2=>a5t h1 h2
  have h2:=c4o p p.defs.length (pathB p) rfl g.n6 ht h4 hr
  rw [<- e8b ht] at h2
  simp [a0h] at h2
  simp [hp]
  refine EC.afun h2 ?_
  simp [orderV,hp]
 ·simp [hp,orderV]
end Go.Aft
end
section
set_option maxRecDepth 20000
namespace Go.Aft
open Go.Proofs.Tryz
theorem c1k (p:Prog) (hp:fitP p) (l:List Event) (src:Int):AFun prog 4 [lv (a0h p),sl (l.map a0t),lvI src] (.d (.k (.bool true))):=by
 have cc:=a6j (p:=kds [3] [] [])
 refine AFun.body (a6j (p:=kds [3] [] [])) func4 rfl call4 (by rw [ntmps4];simp) rfl fun hf H=>?_
 have hs:∀ s ∈ p.srcs ++ a0d p,a2b s:=hp
 have h1:=c2p p hs
 have h2:=d1l p hs
 have h3:=c8k p hs l src
 have h4:=d9e p hs l src
 obtain ⟨a,e,he⟩:∃ (a:List (List Nat)) (e:Int),orderV p=.tup [sl (a.map rT),lvI e]:=by
  by_cases q:formed p
  ·exact ⟨_,_,by rw [orderV,if_pos q]⟩
  ·exact ⟨[],_,by rw [orderV,if_neg q];rfl⟩
 obtain ⟨b,e2,he2⟩:∃ (b:List Item) (e:Int),saysV p l src=.tup [sl (b.map a0i),lvI e]:=by
  by_cases q:askedM p l=true/\0<=src/\src < p.srcs.length
  ·exact ⟨_,_,by rw [saysV,if_pos q];rfl⟩
  ·exact ⟨[],_,by rw [saysV,if_neg q];rfl⟩
 rw [he] at h1 h2
 rw [he2] at h3 h4
 have h5:=b7z a a
 have h6:=b3u b b
 simp [a0h] at h1 h2 h3 h4
 simp at h5 h6
 simp [ntmps4,results4,a0h]
 refine EC.afun h1 ?_
 simp
 refine EC.afun h2 ?_
 simp
 refine EC.afun h3 ?_
 simp
 refine EC.afun h4 ?_
 simp
 refine EC.afun h5 ?_
 simp
 refine EC.afun h6 ?_
 simp
 refine EC.afun e3w ?_
 simp
end Go.Aft
end
section
set_option maxRecDepth 20000
namespace Go.Aft
open Go.Proofs.Tryz
structure Folded where
 other:Int
 fold:Int
 bag:Bag
end Go.Aft
end
section
set_option maxRecDepth 20000
namespace Go.Aft
open Go.RowKit
open Go.Proofs.Tryz
section
variable {H:Type} {enc:TypeId × Value->H} {w:World}
theorem d9k {P:Program} {α:Type} {t e:TypeId} {r:List α->List DV} {x1:List α->DV} {fit:List α->Prop} {base:Nat} {v:Value} {d:DataW H} {p:List MemPlace} (hr:∀ fuel,Rd enc P w t r fit fuel) (hx:∀ x,r x=[x1 x]) (hu:P.underlying t=some (.slice e))
  (hval:Value.okWide P w .any base t v) (hd:DataW.Trod enc P w 0 (fun _=>true) true t v d p) (hw:Wt P t d):∃ x,fit x/\LR (allG w) 0 noL (.d (x1 x)) v:=by
 obtain ⟨a,len,cap,rfl⟩:=Go.WideShapes.okWide_slice hu hval
 obtain ⟨fuel,hf⟩:=hd
 obtain ⟨x,h1,h2⟩:=hr fuel _ _ _ hf
 refine ⟨x,h2 hw,?_⟩
 rw [hx] at h1
 have h3:=b6f (G:=allG w) (nx:=0) (lm:=noL) h1
 simp only [List.map_cons,List.map_nil] at h3
 unfold LRs at h3
 obtain ⟨v',vs',e,h4,_⟩:=h3
 have:v'=.slice a len cap:=by
  have:=congrArg List.head? e
  simpa [Value.cells] using this.symm
 rw [<- this];exact h4
theorem e7w (fuel:Nat):Rd enc prog w 82 a0t (fun _=>True) fuel :=
 Rd.struct underlying82 fuel fun f hf=>((RdFs.cons (n:=5) rfl (Rd.int underlying3 f)<|RdFs.cons rfl (Rd.int underlying3 f)<|RdFs.cons rfl (f4u f)<|RdFs.nil)).conv (fun x=>⟨x.1,x.2.1,x.2.2.1⟩) (fun _=>rfl) (fun _ _=>trivial)
theorem e2q (fuel:Nat):Rd enc prog w 43 (fun l:List Event=>[.sl (l.map a0t)]) (fun l=>∀ n ∈ l,True) fuel:=Rd.slice underlying43 (by decide +kernel) (fun x=>by rw [show prog.cellsOf 82=5 by decide +kernel];rfl) fuel fun f _=>e7w f
end
end Go.Aft
end
