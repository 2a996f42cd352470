import Derived.Test.YtdhphbedajhmnaaGreatA36
import Derived.Test.YtdhphbedajhmnaaGreatA33
set_option linter.all false
section
set_option linter.unusedSectionVars false
set_option maxRecDepth 20000
namespace Go.Aft
open Go.Proofs.Tryz
open Go.Sort (swp insInner insOuter insertionSort SWO)
set_option maxHeartbeats 2000000 in
theorem loose_symMerge (p:Loose->Prop) (cf:Loose->Loose->Int) (hO:SWO (ltOf' cf)) (F:FuncId) (cap:List LV) (hcap:∀ n,nbs n cap) (hcf:∀ x y,p x->p y->AFun prog F ([lv (rLoose x),lv (rLoose y)] ++ cap) (lvI (cf x y))) :
  ∀ (K:Nat) (P X Y S:List Loose),X.length+Y.length<=K->X ≠ []->Y ≠ []->(∀ x ∈ X,p x)->(∀ x ∈ Y,p x)->SortedL (ltOf' cf) X->SortedL (ltOf' cf) Y->∀ (N a m b:Nat) (hN:N=(P ++ (X ++ (Y ++ S))).length) (hsz:N<=1000) (ha:a=P.length) (hm:m=P.length+X.length) (hb:b=P.length+(X.length+Y.length))
   (n g:Nat) (ex:Bool) (H:GH) (ho:H.obj n=some (vecO rLoose 181 g 6 (P ++ (X ++ (Y ++ S))).toArray ex)),
  ECall prog 203 [.vs n g 6 0 N,lvI a,lvI m,lvI b,.fn (.func F) [] cap] H fun ce H'=>(∃ v,ce=.ret v)/\H'=H.set n (vecO rLoose 181 g 6 (P ++ (mergeL (ltOf' cf) X Y ++ S)).toArray ex)
 | 0,P,X,Y,S,hK,hX,hY,_,_,_,_,N,a,m,b,hN,hsz,ha,hm,hb,n,g,ex,H,ho=>by
  have hxl:=List.length_pos_iff.2 hX
  omega
 | K+1,P,X,Y,S,hK,hX,hY,hpX,hpY,sX,sY,N,a,m,b,hN,hsz,ha,hm,hb,n,g,ex,H,ho=>by
  have ih:=loose_symMerge p cf hO F cap hcap hcf K
  have cc:=cxK_ok (p:=kds [] [] [])
  refine ECall.bodyNW (cxK_ok (p:=kds [] [] [])) func203 rfl call203 (by rw [ntmps203];simp) rfl fun hf hw=>?_
  have ln:=hw.lt ho
  have hxl:=List.length_pos_iff.2 hX
  have hyl:=List.length_pos_iff.2 hY
  simp only [List.length_append] at hN
  have ob:∀ o,(H.set n o).obj n=some o:=fun o=>GH.set_same
  have w1:IntKind.wrap .i64 ((m:Int) - a)=X.length:=by rw [wrap64] <;> omega
  have w2:IntKind.wrap .i64 ((b:Int) - m)=Y.length:=by rw [wrap64] <;> omega
  obtain ⟨d,hd⟩:∃ d,(P ++ (X ++ (Y ++ S))).toArray=d:=⟨_,rfl⟩
  have hds:d.size=N:=by rw [<- hd];simp;omega
  have gX:∀ (t:Nat) (h:t < X.length) (i:Nat),i=a+t->d[i]! = X[t]:=fun t h i hi=>by rw [<- hd];exact get_at P (Y ++ S) X h (by omega)
  have gY:∀ (t:Nat) (h:t < Y.length) (i:Nat),i=m+t->d[i]! = Y[t]:=fun t h i hi=>by
   rw [<- hd,<- List.append_assoc];exact get_at (P ++ X) S Y h (by simp;omega)
  have hl2:=rowsV_len rLoose_len d
  rw [hds] at hl2
  have rg:=fun (i:Nat) (h:i < N)=>rowsV_get rLoose_len d (show i < d.size by omega)
  have cg:=fun (i:Nat) (h:i < N)=>show 6<=N * 6 - i * 6 by omega
  rw [hd] at ho
  simp [ntmps203,results203] at hf |-
  refine AW.seq cc ?_
  simp [w1]
  refine ⟨fun q1=>?_,fun q1=>?_⟩
  ·-- one on the left
   obtain ⟨x,rfl⟩:∃ x,X=[x]:=by
    match X,hX,q1 with
    | [x],_,_=>exact ⟨x,rfl⟩
    | x :: y :: l,_,q=>simp at q;omega
   refine AW.loopS cc (fun s:Nat × Nat=>⟨[(0,.vs n g 6 0 N),(1,lvI a),(4,.fn (.func F) [] cap),(10,lvI ((m+s.1:Nat):Int)),(11,lvI ((m+s.2:Nat):Int))],[],H⟩) (fun s=>s.2 - s.1)
    (fun s=>s.1<=s.2/\s.2<=Y.length/\(∀ c (h:c < Y.length),c < s.1->ltOf' cf Y[c] x=true)/\(∀ c (h:c < Y.length),s.2<=c->ltOf' cf Y[c] x=false)) (0,Y.length) ⟨⟨Nat.zero_le _,Nat.le_refl _,by intro c _ h;omega,by intro c _ h;omega⟩,by simp [nbs_only _ (hcap 0)];omega⟩ ?_
   rintro ⟨i,j⟩ ⟨i1,i2,i3,i4⟩
   simp only at i1 i2 i3 i4
   simp
   refine ⟨fun h=>?_,fun h=>?_⟩
   ·obtain ⟨e,he⟩:∃ e,e=(i+j) / 2:=⟨_,rfl⟩
    obtain ⟨c,hc⟩:∃ c,c=m+e:=⟨_,rfl⟩
    have hmid:IntKind.wrap .i64 (IntKind.wrap .u64 (IntKind.wrap .i64 ((m:Int)+i+(m+j))) / 2)=c:=mid_wrap (by omega) (by omega) (by omega)
    have heY:e < Y.length:=by omega
    have e1:=rg c (by omega)
    have e2:=rg a (by omega)
    have hx:=hcf Y[e] x (hpY _ (List.getElem_mem heY)) (hpX x (by simp))
    rw [gY e heY c hc] at e1
    rw [gX 0 (by simp) a (by omega)] at e2
    simp at hx e2
    have b1:0<=(c:Int)/\(c:Int) < N:=by omega
    have b2:0<=(a:Int)/\(a:Int) < N:=by omega
    refine AW.draw cc [(9,.n)] (.q 0<|.q 1<|.q 2<|.q 3<|.q 5<|.q 6<|.q 7<|.q 4<|.q 8<|.q 9<|.q 10<|.done) (by kernel_rfl) ?_
    simp [ho,vecO,hmid,hl2,cg c (by omega),cg a (by omega),e1,e2,b1,b2]
    refine ⟨hcap _,FC.afun hx ?_⟩
    simp
    refine ⟨fun q=>NX.go (e+1,j) (by simp only;omega) ⟨by simp only;omega,i2,fun t ht ht2=>?_,i4⟩ ?_,fun q=>NX.go (i,e) (by simp only;omega) ⟨by simp only;omega,by simp only;omega,i3,fun t ht ht2=>?_⟩ ?_⟩
    ·have k1:=sorted_get sY hO (i:=t) (j:=e) (by simp only at ht2;omega) heY
     have k2:ltOf' cf Y[e] x=true:=by simpa [ltOf'] using q
     cases k3:ltOf' cf Y[t] x with
     | true=>rfl
     | false=>rw [hO.ntrans _ _ _ k1 k3] at k2;cases k2
    ·have w4:IntKind.wrap .i64 ((c:Int)+1)=(m:Int)+((e:Int)+1):=by rw [wrap64] <;> omega
     simp [nbs_only _ (hcap 0),w4]
    ·have k1:=sorted_get sY hO (i:=e) (j:=t) (by simpa using ht2) ht
     have k2:ltOf' cf Y[e] x=false:=by simpa [ltOf'] using q
     exact hO.ntrans _ _ _ k1 k2
    ·have w4:(c:Int)=(m:Int)+e:=by omega
     simp [nbs_only _ (hcap 0),w4]
   ·have e:i=j:=by omega
    subst e
    have hmg:=merge_one hO sY i3 i4
    refine AW.loopS cc (fun s:Nat=>⟨[(0,.vs n g 6 0 N),(10,lvI ((m+i:Nat):Int)),(13,lvI ((a+s:Nat):Int))],[],H.set n (vecO rLoose 181 g 6 (P ++ (Y.take s ++ x :: (Y.drop s ++ S))).toArray ex)⟩) (fun s=>i - s)
     (fun s=>s<=i) 0 ⟨Nat.zero_le _,by
      have:(P ++ x :: (Y ++ S)).toArray=d:=by rw [<- hd];simp
      simp [nbs_only _ (hcap 0),this,GH.set_id ho]⟩ ?_
    intro s hs
    have w3:IntKind.wrap .i64 ((m:Int)+i - 1)=(a:Int)+i:=by simp at hm;rw [wrap64] <;> omega
    simp [w3]
    refine ⟨fun h=>?_,fun h=>?_⟩
    ·have hsY:s < Y.length:=by omega
     have eY:Y.drop s=Y[s] :: Y.drop (s+1):=List.drop_eq_getElem_cons hsY
     obtain ⟨u,hu⟩:∃ u,u=a+s:=⟨_,rfl⟩
     have hsw:=swp_mid (P ++ Y.take s) [] (Y.drop (s+1) ++ S) x Y[s] (i:=u) (j:=u+1) (by simp;omega) (by simp;omega)
     obtain ⟨d2,hd2⟩:∃ d2,(P ++ (Y.take s ++ x :: (Y.drop s ++ S))).toArray=d2:=⟨_,rfl⟩
     have hds2:d2.size=N:=by rw [<- hd2];simp at hN |-;omega
     have hfin:(P ++ (Y.take (s+1) ++ x :: (Y.drop (s+1) ++ S))).toArray=swp d2 u (u+1):=by
      rw [<- hd2,eY,take_snoc hsY]
      simp only [List.append_assoc,List.cons_append,List.nil_append] at hsw |-
      rw [hsw]
     rw [hd2]
     simp at hN
     have wu:(a:Int)+s=u:=by omega
     have wu1:IntKind.wrap .i64 ((u:Int)+1)=(u:Int)+1:=by rw [wrap64] <;> omega
     have tu1:((u:Int)+1).toNat=u+1:=by omega
     have hl3:=rowsV_len rLoose_len d2
     rw [hds2] at hl3
     have g1:=rowsV_get rLoose_len d2 (show u < d2.size by omega)
     have g2:=rowsV_get rLoose_len d2 (show u+1 < d2.size by omega)
     have s1:=rowsV_set rLoose_len d2 (show u < d2.size by omega) d2[u+1]!
     have s2:=rowsV_set rLoose_len (d2.setIfInBounds u d2[u+1]!) (show u+1 < (d2.setIfInBounds u d2[u+1]!).size by simp;omega) d2[u]!
     simp [putAt] at s1 s2
     have hl4:=rowsV_len rLoose_len (d2.setIfInBounds u d2[u+1]!)
     simp [hds2] at hl4
     have c3:u * 6+6<=N * 6:=by omega
     have c4:(u+1) * 6+6<=N * 6:=by omega
     have b1:0<=(u:Int)/\(u:Int) < N:=by omega
     have b2:0<=(u:Int)+1/\(u:Int)+1 < N:=by omega
     refine AW.draw cc [] (.q 0<|.q 1<|.q 2<|.q 3<|.q 4<|.q 5<|.q 6<|.q 7<|.q 8<|.q 10<|.q 11<|.q 12<|.q 9<|.q 13<|.q 14<|.f<|.one 15<|.q 16<|.f<|.one 17<|.done) (by kernel_rfl) ?_
     simp [ob,vecO,wu,wu1,tu1,hl3,cg u (by omega),cg (u+1) (by omega),g1,g2,c3,s1,hl4,c4,GH.set_set,nbs_map,b1,b2]
     refine NX.go (s+1) (by omega) (by omega) ?_
     rw [hfin]
     have wu2:(u:Int)+1=(a:Int)+((s:Int)+1):=by omega
     simp [nbs_only _ (hcap 0),s2,swp,vecO,wu2]
    ·have e:s=i:=by omega
     subst e
     rw [hmg]
     simp
     exact fun hz=>hz.drop (by rw [GH.set_next];exact Nat.le_refl _)
  ·refine AW.seq cc ?_
   simp [w2]
   refine ⟨fun q2=>?_,fun q2=>?_⟩
   ·-- one on the right
    obtain ⟨y,rfl⟩:∃ y,Y=[y]:=by
     match Y,hY,q2 with
     | [y],_,_=>exact ⟨y,rfl⟩
     | x :: y :: l,_,q=>simp at q;omega
    refine AW.loopS cc (fun s:Nat × Nat=>⟨[(0,.vs n g 6 0 N),(2,lvI m),(4,.fn (.func F) [] cap),(14,lvI ((a+s.1:Nat):Int)),(15,lvI ((a+s.2:Nat):Int))],[],H⟩) (fun s=>s.2 - s.1)
     (fun s=>s.1<=s.2/\s.2<=X.length/\(∀ c (h:c < X.length),c < s.1->ltOf' cf y X[c]=false)/\(∀ c (h:c < X.length),s.2<=c->ltOf' cf y X[c]=true)) (0,X.length) ⟨⟨Nat.zero_le _,Nat.le_refl _,by intro c _ h;omega,by intro c _ h;omega⟩,by simp [nbs_only _ (hcap 0)];omega⟩ ?_
    rintro ⟨i,j⟩ ⟨i1,i2,i3,i4⟩
    simp only at i1 i2 i3 i4
    simp
    refine ⟨fun h=>?_,fun h=>?_⟩
    ·obtain ⟨e,he⟩:∃ e,e=(i+j) / 2:=⟨_,rfl⟩
     obtain ⟨c,hc⟩:∃ c,c=a+e:=⟨_,rfl⟩
     have hmid:IntKind.wrap .i64 (IntKind.wrap .u64 (IntKind.wrap .i64 ((a:Int)+i+(a+j))) / 2)=c:=mid_wrap (by omega) (by omega) (by omega)
     have heX:e < X.length:=by omega
     have e1:=rg c (by omega)
     have e2:=rg m (by simp at hN;omega)
     have hx:=hcf y X[e] (hpY y (by simp)) (hpX _ (List.getElem_mem heX))
     rw [gX e heX c hc] at e1
     rw [gY 0 (by simp) m (by omega)] at e2
     simp at hx e2 hN
     have b1:0<=(c:Int)/\(c:Int) < N:=by omega
     have b2:0<=(m:Int)/\(m:Int) < N:=by omega
     refine AW.draw cc [(9,.n)] (.q 0<|.q 1<|.q 2<|.q 3<|.q 5<|.q 6<|.q 7<|.q 4<|.q 8<|.q 9<|.q 10<|.q 11<|.done) (by kernel_rfl) ?_
     simp [ho,vecO,hmid,hl2,cg c (by omega),cg m (by omega),e1,e2,b1,b2]
     refine ⟨hcap _,FC.afun hx ?_⟩
     simp
     refine ⟨fun q=>NX.go (e+1,j) (by simp only;omega) ⟨by simp only;omega,i2,fun t ht ht2=>?_,i4⟩ ?_,fun q=>NX.go (i,e) (by simp only;omega) ⟨by simp only;omega,by simp only;omega,i3,fun t ht ht2=>?_⟩ ?_⟩
     ·have k1:=sorted_get sX hO (i:=t) (j:=e) (by simp only at ht2;omega) heX
      have k2:ltOf' cf y X[e]=false:=by simpa [ltOf'] using q
      exact hO.ntrans _ _ _ k2 k1
     ·have w4:IntKind.wrap .i64 ((c:Int)+1)=(a:Int)+((e:Int)+1):=by rw [wrap64] <;> omega
      simp [nbs_only _ (hcap 0),w4]
     ·have k1:=sorted_get sX hO (i:=e) (j:=t) (by simpa using ht2) ht
      have k2:ltOf' cf y X[e]=true:=by simpa [ltOf'] using q
      cases k3:ltOf' cf y X[t] with
      | true=>rfl
      | false=>rw [hO.ntrans _ _ _ k3 k1] at k2;cases k2
     ·have w4:(c:Int)=(a:Int)+e:=by omega
      simp [nbs_only _ (hcap 0),w4]
    ·have e:i=j:=by omega
     subst e
     have hmg:=merge_last hO sX i3 i4
     refine AW.loopS cc (fun s:Nat=>⟨[(0,.vs n g 6 0 N),(14,lvI ((a+i:Nat):Int)),(17,lvI ((a+s:Nat):Int))],[],H.set n (vecO rLoose 181 g 6 (P ++ (X.take s ++ y :: (X.drop s ++ S))).toArray ex)⟩) (fun s=>s)
      (fun s=>i<=s/\s<=X.length) X.length ⟨⟨i2,Nat.le_refl _⟩,by
       have:(P ++ (X ++ y :: S)).toArray=d:=by rw [<- hd];simp
       have w5:(m:Int)=(a:Int)+X.length:=by omega
       simp [nbs_only _ (hcap 0),this,GH.set_id ho,w5]⟩ ?_
     rintro s ⟨hs1,hs2⟩
     simp
     refine ⟨fun h=>?_,fun h=>?_⟩
     ·obtain ⟨s,rfl⟩:∃ s',s=s' + 1:=⟨s - 1,by omega⟩
      have hsX:s < X.length:=by omega
      have eX:X.drop s=X[s] :: X.drop (s+1):=List.drop_eq_getElem_cons hsX
      obtain ⟨u,hu⟩:∃ u,u=a+s:=⟨_,rfl⟩
      have hsw:=swp_mid' (P ++ X.take s) [] (X.drop (s+1) ++ S) X[s] y (i:=u) (j:=u+1) (by simp;omega) (by simp;omega)
      obtain ⟨d2,hd2⟩:∃ d2,(P ++ (X.take (s+1) ++ y :: (X.drop (s+1) ++ S))).toArray=d2:=⟨_,rfl⟩
      have hds2:d2.size=N:=by rw [<- hd2];simp at hN |-;omega
      have hfin:(P ++ (X.take s ++ y :: (X.drop s ++ S))).toArray=swp d2 (u+1) u:=by
       rw [<- hd2,eX,take_snoc hsX]
       simp only [List.append_assoc,List.cons_append,List.nil_append] at hsw |-
       rw [hsw]
      rw [hd2]
      simp at hN
      have wu:(a:Int)+((s:Int)+1)=(u:Int)+1:=by omega
      have wu1:IntKind.wrap .i64 ((u:Int)+1 - 1)=(u:Int):=by rw [wrap64] <;> omega
      have wu3:IntKind.wrap .i64 (u:Int)=(u:Int):=by rw [wrap64] <;> omega
      have tu1:((u:Int)+1).toNat=u+1:=by omega
      have hl3:=rowsV_len rLoose_len d2
      rw [hds2] at hl3
      have g1:=rowsV_get rLoose_len d2 (show u < d2.size by omega)
      have g2:=rowsV_get rLoose_len d2 (show u+1 < d2.size by omega)
      have s1:=rowsV_set rLoose_len d2 (show u+1 < d2.size by omega) d2[u]!
      have s2:=rowsV_set rLoose_len (d2.setIfInBounds (u+1) d2[u]!) (show u < (d2.setIfInBounds (u+1) d2[u]!).size by simp;omega) d2[u+1]!
      simp [putAt] at s1 s2
      have hl4:=rowsV_len rLoose_len (d2.setIfInBounds (u+1) d2[u]!)
      simp [hds2] at hl4
      have c3:u * 6+6<=N * 6:=by omega
      have c4:(u+1) * 6+6<=N * 6:=by omega
      have b1:0<=(u:Int)/\(u:Int) < N:=by omega
      have b2:0<=(u:Int)+1/\(u:Int)+1 < N:=by omega
      refine AW.draw cc [] (.q 0<|.q 1<|.q 2<|.q 3<|.q 4<|.q 5<|.q 6<|.q 7<|.q 8<|.q 10<|.q 11<|.q 12<|.q 9<|.q 13<|.q 14<|.f<|.one 15<|.q 16<|.f<|.one 17<|.done) (by kernel_rfl) ?_
      simp [ob,vecO,wu,wu1,wu3,tu1,hl3,cg u (by omega),cg (u+1) (by omega),g1,g2,c3,s1,hl4,c4,GH.set_set,nbs_map,b1,b2]
      refine NX.go s (by omega) ⟨by omega,by omega⟩ ?_
      rw [hfin]
      have wu2:(u:Int)=(a:Int)+(s:Int):=by omega
      simp [nbs_only _ (hcap 0),s2,swp,vecO,wu2]
      done
     ·have e:s=i:=by omega
      subst e
      rw [hmg]
      simp
      exact fun hz=>hz.drop (by rw [GH.set_next];exact Nat.le_refl _)
   ·obtain ⟨h,hh⟩:∃ h,h=(X.length+Y.length) / 2:=⟨_,rfl⟩
    obtain ⟨mid,hmd⟩:∃ mid,mid=a+h:=⟨_,rfl⟩
    obtain ⟨nn,hnn⟩:∃ nn,nn=mid+m:=⟨_,rfl⟩
    obtain ⟨u0,hu0⟩:∃ u0,u0=h - Y.length:=⟨_,rfl⟩
    obtain ⟨w0,hw0⟩:∃ w0,w0=min X.length h:=⟨_,rfl⟩
    have hx2:2<=X.length:=by omega
    have hy2:2<=Y.length:=by omega
    have hmid:IntKind.wrap .i64 (IntKind.wrap .u64 (IntKind.wrap .i64 ((a:Int)+b)) / 2)=mid:=mid_wrap (by omega) (by omega) (by omega)
    have hwn:IntKind.wrap .i64 ((mid:Int)+m)=nn:=by rw [wrap64] <;> omega
    refine AW.seq cc ?_
    simp [hmid]
    refine AW.seq cc ?_
    simp [hwn]
    refine AW.seq cc ?_
    simp
    refine AW.join (c:=cxK (kds [] [] [])) (fun _:Unit=>⟨[(0,.vs n g 6 0 N),(1,lvI a),(2,lvI m),(3,lvI b),(4,.fn (.func F) [] cap),(18,lvI mid),(19,lvI nn),(20,lvI ((a+u0:Nat):Int)),(21,lvI ((a+w0:Nat):Int))],[],H⟩) (fun _=>True) ?_ ?_
    ·refine AW.ev cc ?_
     simp
     refine ⟨fun q=>?_,fun q=>?_⟩
     ·have w5:IntKind.wrap .i64 ((nn:Int) - b)=(a:Int)+u0:=by rw [wrap64] <;> omega
      have w6:(mid:Int)=(a:Int)+w0:=by omega
      exact JN.go () trivial (by simp [nbs_only _ (hcap 0),w5,w6])
     ·have w5:(a:Int)=(a:Int)+u0:=by omega
      have w6:(m:Int)=(a:Int)+w0:=by omega
      exact JN.go () trivial (by simp [nbs_only _ (hcap 0),<- w5,<- w6])
    ·rintro _ _
     obtain ⟨pp,hpp⟩:∃ pp,pp=nn - 1:=⟨_,rfl⟩
     have hwp:IntKind.wrap .i64 ((nn:Int) - 1)=pp:=by rw [wrap64] <;> omega
     refine AW.seq cc ?_
     simp [hwp]
     refine AW.join (c:=cxK (kds [] [] [])) (fun u:Nat=>⟨[(0,.vs n g 6 0 N),(1,lvI a),(2,lvI m),(3,lvI b),(4,.fn (.func F) [] cap),(18,lvI mid),(19,lvI nn),(20,lvI ((a+u:Nat):Int))],[],H⟩) (fun u=>u0<=u/\u<=w0/\(∀ v (hv:v < X.length) (hw:h - 1 - v < Y.length),u0<=v->v < u->ltOf' cf Y[h - 1 - v] X[v]=false)/\(∀ v (hv:v < X.length) (hw:h - 1 - v < Y.length),u<=v->v < w0->ltOf' cf Y[h - 1 - v] X[v]=true)) ?_ ?_
     ·refine AW.ev cc ?_
      simp
      refine AW.loopS cc (fun s:Nat × Nat=>⟨[(0,.vs n g 6 0 N),(1,lvI a),(2,lvI m),(3,lvI b),(4,.fn (.func F) [] cap),(18,lvI mid),(19,lvI nn),(20,lvI ((a+s.1:Nat):Int)),(21,lvI ((a+s.2:Nat):Int)),(22,lvI pp)],[],H⟩) (fun s=>s.2 - s.1)
       (fun s=>u0<=s.1/\s.1<=s.2/\s.2<=w0/\(∀ v (hv:v < X.length) (hw:h - 1 - v < Y.length),u0<=v->v < s.1->ltOf' cf Y[h - 1 - v] X[v]=false)/\(∀ v (hv:v < X.length) (hw:h - 1 - v < Y.length),s.2<=v->v < w0->ltOf' cf Y[h - 1 - v] X[v]=true)) (u0,w0) ⟨⟨Nat.le_refl _,by simp only;omega,Nat.le_refl _,by intro v _ _ h1 h2;omega,by intro v _ _ h1 h2;omega⟩,by simp [nbs_only _ (hcap 0)]⟩ ?_
      rintro ⟨i,j⟩ ⟨i0,i1,i2,i3,i4⟩
      simp only at i0 i1 i2 i3 i4
      simp
      refine ⟨fun hij=>?_,fun hij=>?_⟩
      ·obtain ⟨e,he⟩:∃ e,e=(i+j) / 2:=⟨_,rfl⟩
       obtain ⟨c,hc⟩:∃ c,c=a+e:=⟨_,rfl⟩
       obtain ⟨y,hy⟩:∃ y,y=h - 1 - e:=⟨_,rfl⟩
       obtain ⟨pc,hpc⟩:∃ pc,pc=m+y:=⟨_,rfl⟩
       have hmd2:IntKind.wrap .i64 (IntKind.wrap .u64 (IntKind.wrap .i64 ((a:Int)+i+(a+j))) / 2)=c:=mid_wrap (by omega) (by omega) (by omega)
       have hpw:IntKind.wrap .i64 ((pp:Int) - c)=pc:=by rw [wrap64] <;> omega
       have heX:e < X.length:=by omega
       have hyY:y < Y.length:=by omega
       have e1:=rg c (by omega)
       have e2:=rg pc (by omega)
       have hx:=hcf Y[y] X[e] (hpY _ (List.getElem_mem hyY)) (hpX _ (List.getElem_mem heX))
       rw [gX e heX c hc] at e1
       rw [gY y hyY pc hpc] at e2
       simp at hx
       have b1:0<=(c:Int)/\(c:Int) < N:=by omega
       have b2:0<=(pc:Int)/\(pc:Int) < N:=by omega
       refine AW.draw cc [(11,.n)] (.q 0<|.q 1<|.q 2<|.q 3<|.q 4<|.q 5<|.q 7<|.q 8<|.q 9<|.q 6<|.q 10<|.q 11<|.q 12<|.q 13<|.done) (by kernel_rfl) ?_
       simp [ho,vecO,hmd2,hpw,hl2,cg c (by omega),cg pc (by omega),e1,e2,b1,b2]
       refine ⟨hcap _,FC.afun hx ?_⟩
       simp
       refine ⟨fun q=>NX.go (e+1,j) (by simp only;omega) ⟨by simp only;omega,by simp only;omega,i2,fun v hv hw2 h1 h2=>?_,i4⟩ ?_,fun q=>NX.go (i,e) (by simp only;omega) ⟨i0,by simp only;omega,by simp only;omega,i3,fun v hv hw2 h1 h2=>?_⟩ ?_⟩
       ·have k1:=sorted_get sX hO (i:=v) (j:=e) (by simp only at h2;omega) heX
        have k2:ltOf' cf Y[y] X[e]=false:=by simpa [ltOf'] using q
        have k3:=sorted_get sY hO (i:=y) (j:=h - 1 - v) (by simp only at h2;omega) hw2
        exact hO.ntrans _ _ _ (hO.ntrans _ _ _ k3 k2) k1
       ·have w4:IntKind.wrap .i64 ((c:Int)+1)=(a:Int)+((e:Int)+1):=by rw [wrap64] <;> omega
        simp [nbs_only _ (hcap 0),w4]
       ·have k1:=sorted_get sX hO (i:=e) (j:=v) (by simpa using h1) hv
        have k2:ltOf' cf Y[y] X[e]=true:=by simpa [ltOf'] using q
        have k3:=sorted_get sY hO (i:=h - 1 - v) (j:=y) (by simp only at h1;omega) hyY
        cases k4:ltOf' cf Y[h - 1 - v] X[v] with
        | true=>rfl
        | false=>rw [hO.ntrans _ _ _ (hO.ntrans _ _ _ k3 k4) k1] at k2;cases k2
       ·have w4:(c:Int)=(a:Int)+e:=by omega
        simp [nbs_only _ (hcap 0),w4]
      ·have e:i=j:=by omega
       subst e
       exact JN.go i ⟨i0,i2,i3,i4⟩ (by simp [nbs_only _ (hcap 0)])
     ·rintro u ⟨i0,i2,i3,i4⟩
      obtain ⟨en,hen⟩:∃ en,en=m+(h - u):=⟨_,rfl⟩
      have hwe:IntKind.wrap .i64 ((nn:Int) - (a+u))=en:=by rw [wrap64] <;> omega
      subst hu0;subst hw0
      have hmg:=merge_sym hO sX sY hh i0 i2 i3 i4
      refine AW.seq cc ?_
      simp [hwe]
      obtain ⟨X1,hX1⟩:∃ l,X.take u=l:=⟨_,rfl⟩
      obtain ⟨X2,hX2⟩:∃ l,X.drop u=l:=⟨_,rfl⟩
      obtain ⟨Y1,hY1⟩:∃ l,Y.take (h - u)=l:=⟨_,rfl⟩
      obtain ⟨Y2,hY2⟩:∃ l,Y.drop (h - u)=l:=⟨_,rfl⟩
      have eX:X=X1 ++ X2:=by rw [<- hX1,<- hX2,List.take_append_drop]
      have eY:Y=Y1 ++ Y2:=by rw [<- hY1,<- hY2,List.take_append_drop]
      have lX1:X1.length=u:=by rw [<- hX1];simp;omega
      have lX2:X2.length=X.length - u:=by rw [<- hX2];simp
      have lY1:Y1.length=h - u:=by rw [<- hY1];simp;omega
      have lY2:Y2.length=Y.length - (h - u):=by rw [<- hY2];simp
      rw [hX1,hX2,hY1,hY2] at hmg
      have pX:∀ x,x ∈ X1 \/ x ∈ X2->p x:=fun x hx=>hpX x (by rw [eX];exact List.mem_append.2 hx)
      have pY:∀ x,x ∈ Y1 \/ x ∈ Y2->p x:=fun x hx=>hpY x (by rw [eY];exact List.mem_append.2 hx)
      rw [eX] at sX
      rw [eY] at sY
      have sX1:SortedL (ltOf' cf) X1:=(List.pairwise_append.1 sX).1
      have sX2:SortedL (ltOf' cf) X2:=(List.pairwise_append.1 sX).2.1
      have sY1:SortedL (ltOf' cf) Y1:=(List.pairwise_append.1 sY).1
      have sY2:SortedL (ltOf' cf) Y2:=(List.pairwise_append.1 sY).2.1
      have hd1:d=(P ++ (X1 ++ (X2 ++ (Y1 ++ (Y2 ++ S))))).toArray:=by rw [<- hd,eX,eY];simp
      have hnx:∀ o,n < (H.set n o).next:=fun o=>by rw [GH.set_next];exact ln
      refine AW.join (c:=cxK (kds [] [] [])) (fun _:Unit=>⟨[(0,.vs n g 6 0 N),(1,lvI a),(3,lvI b),(4,.fn (.func F) [] cap),(18,lvI mid),(20,lvI ((a+u:Nat):Int)),(24,lvI en)],[],H.set n (vecO rLoose 181 g 6 (P ++ (X1 ++ (Y1 ++ (X2 ++ (Y2 ++ S))))).toArray ex)⟩) (fun _=>True) ?_ ?_
      ·refine AW.ev cc ?_
       simp
       refine ⟨fun q1 q2=>⟨⟨ln,hcap _⟩,?_⟩,fun q=>JN.go () trivial ?_⟩
       ·have hX2:X2 ≠ []:=fun e=>by rw [e] at lX2;simp at lX2;omega
        have hY1:Y1 ≠ []:=fun e=>by rw [e] at lY1;simp at lY1;omega
        have hr:=loose_rotate F cap hcap (P ++ X1) X2 Y1 (Y2 ++ S) hX2 hY1 N (a+u) m en (by simp;omega) hsz (by simp;omega) (by simp;omega) (by simp;omega) n g ex H (by rw [List.append_assoc,<- hd1];exact ho)
        simp at hr
        refine EC.of hr (fun v H2 hR=>?_) (fun v H2 hR=>?_)
        rotate_left
        ·obtain ⟨⟨_,e⟩,_⟩:=hR;cases e
        obtain ⟨_,rfl⟩:=hR
        simp
        exact JN.go () trivial (by simp [nbs_only _ (hcap 0)])
       ·have e0:X2=[] \/ Y1=[]:=by
         by_cases q1:a+u < m
         ·right;have:=q (by omega);exact List.eq_nil_of_length_eq_zero (by omega)
         ·left;exact List.eq_nil_of_length_eq_zero (by omega)
        have e1:(P ++ (X1 ++ (Y1 ++ (X2 ++ (Y2 ++ S))))).toArray=d:=by
         rw [hd1];rcases e0 with e | e <;> simp [e]
        simp [nbs_only _ (hcap 0),e1,GH.set_id ho]
      ·rintro _ _
       refine AW.join (c:=cxK (kds [] [] [])) (fun _:Unit=>⟨[(0,.vs n g 6 0 N),(3,lvI b),(4,.fn (.func F) [] cap),(18,lvI mid),(24,lvI en)],[],H.set n (vecO rLoose 181 g 6 (P ++ (mergeL (ltOf' cf) X1 Y1 ++ (X2 ++ (Y2 ++ S)))).toArray ex)⟩) (fun _=>True) ?_ ?_
       ·refine AW.ev cc ?_
        simp
        refine ⟨fun q1 q2=>⟨⟨hnx _,hcap _⟩,?_⟩,fun q=>JN.go () trivial ?_⟩
        ·have hX1:X1 ≠ []:=fun e=>by rw [e] at lX1;simp at lX1;omega
         have hY1:Y1 ≠ []:=fun e=>by rw [e] at lY1;simp at lY1;omega
         have hr:=ih P X1 Y1 (X2 ++ (Y2 ++ S)) (by omega) hX1 hY1 (fun x hx=>pX x (.inl hx)) (fun x hx=>pY x (.inl hx)) sX1 sY1 N a (a+u) mid (by simp;omega) hsz ha (by omega) (by omega) n g ex _ (ob _)
         simp at hr
         refine EC.of hr (fun v H2 hR=>?_) (fun v H2 hR=>?_)
         rotate_left
         ·obtain ⟨⟨_,e⟩,_⟩:=hR;cases e
         obtain ⟨_,rfl⟩:=hR
         simp
         exact JN.go () trivial (by simp [nbs_only _ (hcap 0),GH.set_set])
        ·have e0:X1=[] \/ Y1=[]:=by
          by_cases q1:0 < u
          ·right;have:=q (by omega);exact List.eq_nil_of_length_eq_zero (by omega)
          ·left;exact List.eq_nil_of_length_eq_zero (by omega)
         have e1:(P ++ (mergeL (ltOf' cf) X1 Y1 ++ (X2 ++ (Y2 ++ S)))).toArray=(P ++ (X1 ++ (Y1 ++ (X2 ++ (Y2 ++ S))))).toArray:=by
          rcases e0 with e | e <;> simp [e]
         rw [<- e1]
         simp [nbs_only _ (hcap 0)]
       ·rintro _ _
        refine AW.ev cc ?_
        simp
        refine ⟨fun q1 q2=>⟨⟨hnx _,hcap _⟩,?_⟩,fun q=>?_⟩
        ·have hX2:X2 ≠ []:=fun e=>by rw [e] at lX2;simp at lX2;omega
         have hY2:Y2 ≠ []:=fun e=>by rw [e] at lY2;simp at lY2;omega
         have hr:=ih (P ++ mergeL (ltOf' cf) X1 Y1) X2 Y2 S (by omega) hX2 hY2 (fun x hx=>pX x (.inr hx)) (fun x hx=>pY x (.inr hx)) sX2 sY2 N mid en b (by simp;omega) hsz (by simp;omega) (by simp;omega) (by simp;omega) n g ex _ (by rw [List.append_assoc];exact ob _)
         simp at hr
         refine EC.of hr (fun v H2 hR=>?_) (fun v H2 hR=>?_)
         rotate_left
         ·obtain ⟨⟨_,e⟩,_⟩:=hR;cases e
         obtain ⟨_,rfl⟩:=hR
         rw [hmg]
         simp [GH.set_set]
         exact fun hz=>hz.drop (by rw [GH.set_next];exact Nat.le_refl _)
        ·have e0:X2=[] \/ Y2=[]:=by
          by_cases q1:mid < en
          ·right;have:=q q1;exact List.eq_nil_of_length_eq_zero (by omega)
          ·left;exact List.eq_nil_of_length_eq_zero (by omega)
         have e1:(P ++ (mergeL (ltOf' cf) X1 Y1 ++ (X2 ++ (Y2 ++ S)))).toArray=(P ++ (mergeL (ltOf' cf) X Y ++ S)).toArray:=by
          rw [hmg];rcases e0 with e | e <;> simp [e]
         rw [e1]
         exact fun hz=>hz.drop (by rw [GH.set_next];exact Nat.le_refl _)
end Go.Aft
end
section
set_option linter.unusedSectionVars false
set_option maxRecDepth 20000
namespace Go.Aft
open Go.Proofs.Tryz
open Go.Sort (swp insInner insOuter insertionSort SWO)
theorem blocks_perm {lt:Loose->Loose->Bool} (s:Nat) (l:List Loose):(blocks lt s l).Perm l:=by
 induction l using blocks.induct s with
 | case1 l h ih =>
  rw [blocks,dif_pos h]
  refine ((isort_perm _).append ih).trans ?_
  rw [List.take_append_drop]
 | case2 l h=>rw [blocks,dif_neg h];exact isort_perm _
theorem all_get {p:Loose->Prop} {l:List Loose} (h:∀ x ∈ l,p x):∀ i,i < l.toArray.size->p l.toArray[i]! := fun i hi=>by
 rw [getElem!_pos _ i hi];exact h _ (by simp)
theorem loose_stable (p:Loose->Prop) (cf:Loose->Loose->Int) (hO:SWO (ltOf' cf)) (F:FuncId) (cap:List LV) (hcap:∀ n,nbs n cap) (hcf:∀ x y,p x->p y->AFun prog F ([lv (rLoose x),lv (rLoose y)] ++ cap) (lvI (cf x y)))
  (O:List Loose) (hp:∀ x ∈ O,p x) (N:Nat) (hN:N=O.length) (hsz:N<=1000) (n g:Nat) (ex:Bool) (H:GH) (ho:H.obj n=some (vecO rLoose 181 g 6 O.toArray ex)) :
  ECall prog 148 [.vs n g 6 0 N,lvI N,.fn (.func F) [] cap] H fun ce H'=>(∃ v,ce=.ret v)/\H'=H.set n (vecO rLoose 181 g 6 (isort (ltOf' cf) O).toArray ex):=by
 have cc:=cxK_ok (p:=kds [] [] [])
 refine ECall.bodyNW (cxK_ok (p:=kds [] [] [])) func148 rfl call148 (by rw [ntmps148];simp) rfl fun hf hw=>?_
 have ln:=hw.lt ho
 have ob:∀ o,(H.set n o).obj n=some o:=fun o=>GH.set_same
 have hnx:∀ o,n < (H.set n o).next:=fun o=>by rw [GH.set_next];exact ln
 simp [ntmps148,results148] at hf |-
 refine AW.seq cc ?_
 simp
 refine AW.seq cc ?_
 simp
 refine AW.join (c:=cxK (kds [] [] [])) (fun s:List Loose × List Loose=>⟨[(0,.vs n g 6 0 N),(1,lvI N),(2,.fn (.func F) [] cap),(6,lvI 20),(7,lvI s.1.length)],[],H.set n (vecO rLoose 181 g 6 (s.1 ++ s.2).toArray ex)⟩)
  (fun s=>s.2.length<=20/\s.1.length+s.2.length=N/\(∀ x ∈ s.1,p x)/\(∀ x ∈ s.2,p x)/\s.1 ++ isort (ltOf' cf) s.2=blocks (ltOf' cf) 20 O) ?_ ?_
 ·refine AW.ev cc ?_
  simp
  refine AW.loopS cc (fun s:List Loose × List Loose=>⟨[(0,.vs n g 6 0 N),(1,lvI N),(2,.fn (.func F) [] cap),(6,lvI 20),(7,lvI s.1.length),(8,lvI ((s.1.length+20:Nat):Int))],[],H.set n (vecO rLoose 181 g 6 (s.1 ++ s.2).toArray ex)⟩) (fun s=>s.2.length)
   (fun s=>s.1.length+s.2.length=N/\(∀ x ∈ s.1,p x)/\(∀ x ∈ s.2,p x)/\s.1 ++ blocks (ltOf' cf) 20 s.2=blocks (ltOf' cf) 20 O) ([],O) ⟨⟨by simp;omega,by simp,hp,by simp⟩,by simp [GH.set_id ho,nbs_only _ (hcap 0)]⟩ ?_
  rintro ⟨D,R⟩ ⟨i1,i2,i3,i4⟩
  simp only at i1 i2 i3 i4
  simp
  refine ⟨fun h=>⟨⟨hnx _,hcap _⟩,?_⟩,fun h=>?_⟩
  ·obtain ⟨X,Z,rfl,hX⟩:∃ X Z,R=X ++ Z/\X.length=20:=⟨R.take 20,R.drop 20,(List.take_append_drop _ _).symm,by simp;omega⟩
   have hins:=loose_insertion p cf F cap hcap hcf (D ++ (X ++ Z)).toArray (all_get fun x hx=>by
    rcases List.mem_append.1 hx with q | q
    ·exact i2 x q
    ·exact i3 x q) (by simp at i1 |-;omega) D.length (D.length+20) (by omega) (by simp;omega) n g ex _ (ob _)
   rw [insertionSort_list hO D X Z rfl (by rw [hX])] at hins
   have hsz2:(D ++ (X ++ Z)).toArray.size=N:=by simp at i1 |-;omega
   rw [hsz2] at hins
   simp at hins
   refine EC.of hins (fun v H2 hR=>?_) (fun v H2 hR=>?_)
   rotate_left
   ·obtain ⟨⟨_,e⟩,_⟩:=hR;cases e
   obtain ⟨_,rfl⟩:=hR
   have w1:IntKind.wrap .i64 ((D.length:Int)+20+20)=(D.length:Int)+20+20:=by rw [wrap64] <;> omega
   simp [w1]
   have hl:(isort (ltOf' cf) X).length=20:=by simp [hX]
   refine NX.go (D ++ isort (ltOf' cf) X,Z) (by simp;omega) ⟨by simp at i1 |-;omega,fun x hx=>?_,fun x hx=>i3 x (by simp [hx]),by rw [<- i4,blocks_append (by omega) hX];simp⟩ ?_
   ·rcases List.mem_append.1 hx with q | q
    ·exact i2 x q
    ·exact i3 x (by simp [(isort_perm X).mem_iff.1 q])
   ·simp [nbs_only _ (hcap 0),GH.set_set,hl,hX]
    done
  ·exact JN.go (D,R) ⟨by simp only;omega,i1,i2,i3,by simp only;rw [<- i4,blocks_few (by omega)]⟩ (by simp [nbs_only _ (hcap 0)])
 ·rintro ⟨D,R⟩ ⟨i0,i1,i2,i3,i4⟩
  simp only at i0 i1 i2 i3 i4
  refine AW.seq cc ?_
  have hins:=loose_insertion p cf F cap hcap hcf (D ++ (R ++ [])).toArray (all_get fun x hx=>by
    rcases List.mem_append.1 hx with q | q
    ·exact i2 x q
    ·exact i3 x (by simpa using q)) (by simp at i1 |-;omega) D.length N (by omega) (by simp;omega) n g ex (H.set n (vecO rLoose 181 g 6 (D ++ (R ++ [])).toArray ex)) (ob _)
  rw [insertionSort_list hO D R [] rfl (by omega)] at hins
  have hsz2:(D ++ (R ++ [])).toArray.size=N:=by simp at i1 |-;omega
  rw [hsz2] at hins
  simp at hins
  simp
  refine ⟨⟨hnx _,hcap _⟩,EC.of hins (fun v H2 hR=>?_) (fun v H2 hR=>?_)⟩
  rotate_left
  ·obtain ⟨⟨_,e⟩,_⟩:=hR;cases e
  obtain ⟨_,rfl⟩:=hR
  simp [i4]
  refine AW.ev cc ?_
  simp
  refine AW.loopS cc (fun s:Nat=>⟨[(0,.vs n g 6 0 N),(1,lvI N),(2,.fn (.func F) [] cap),(6,lvI s)],[],H.set n (vecO rLoose 181 g 6 (blocks (ltOf' cf) s O).toArray ex)⟩) (fun s=>N - s)
   (fun s=>0 < s/\s<=2000) 20 ⟨by omega,by simp [GH.set_set,nbs_only _ (hcap 0)]⟩ ?_
  rintro s ⟨s1,s2⟩
  simp
  refine ⟨fun h=>?_,fun h=>?_⟩
  ·have w1:IntKind.wrap .i64 (2 * (s:Int))=((2 * s:Nat):Int):=by rw [wrap64] <;> omega
   simp [w1]
   refine AW.loopS cc (fun z:List Loose × List Loose=>⟨[(0,.vs n g 6 0 N),(1,lvI N),(2,.fn (.func F) [] cap),(6,lvI s),(7,lvI z.1.length),(8,lvI ((z.1.length+2 * s:Nat):Int))],[],H.set n (vecO rLoose 181 g 6 (z.1 ++ blocks (ltOf' cf) s z.2).toArray ex)⟩) (fun z=>z.2.length)
    (fun z=>z.1.length+z.2.length=N/\(∀ x ∈ z.2,p x)/\z.1 ++ blocks (ltOf' cf) (2 * s) z.2=blocks (ltOf' cf) (2 * s) O) ([],O) ⟨⟨by simp;omega,hp,by simp⟩,by simp [nbs_only _ (hcap 0)]⟩ ?_
   rintro ⟨D,R⟩ ⟨i1,i3,i4⟩
   simp only at i1 i3 i4
   have wa:IntKind.wrap .i64 ((D.length:Int)+s)=((D.length+s:Nat):Int):=by rw [wrap64] <;> omega
   have hbl:∀ l:List Loose,(blocks (ltOf' cf) s l).length=l.length:=fun l=>(blocks_perm s l).length_eq
   simp [wa]
   refine ⟨fun hb=>⟨⟨hnx _,hcap _⟩,?_⟩,fun hb=>?_⟩
   ·obtain ⟨X,Y,Z,rfl,hX,hY⟩:∃ X Y Z,R=X ++ (Y ++ Z)/\X.length=s/\Y.length=s:=⟨R.take s,(R.drop s).take s,(R.drop s).drop s,by rw [List.take_append_drop,List.take_append_drop],by simp;omega,by simp;omega⟩
    have e1:blocks (ltOf' cf) s (X ++ (Y ++ Z))=isort (ltOf' cf) X ++ (isort (ltOf' cf) Y ++ blocks (ltOf' cf) s Z):=by rw [blocks_append s1 hX,blocks_append s1 hY]
    have hr:=loose_symMerge p cf hO F cap hcap hcf _ D (isort (ltOf' cf) X) (isort (ltOf' cf) Y) (blocks (ltOf' cf) s Z) (Nat.le_refl _) (fun e=>by have:=congrArg List.length e;simp at this;simp [this] at hX;omega) (fun e=>by have:=congrArg List.length e;simp at this;simp [this] at hY;omega)
     (fun x hx=>i3 x (by simp [(isort_perm X).mem_iff.1 hx])) (fun x hx=>i3 x (by simp [(isort_perm Y).mem_iff.1 hx])) (isort_sorted hO X) (isort_sorted hO Y) N D.length (D.length+s) (D.length+2 * s) (by simp [hbl] at i1 |-;omega) hsz rfl (by simp [hX]) (by simp [hX,hY];omega) n g ex (H.set n (vecO rLoose 181 g 6 (D ++ blocks (ltOf' cf) s (X ++ (Y ++ Z))).toArray ex)) (by rw [e1];exact ob _)
    rw [isort_append hO] at hr
    simp at hr
    refine EC.of hr (fun v H2 hR=>?_) (fun v H2 hR=>?_)
    rotate_left
    ·obtain ⟨⟨_,e⟩,_⟩:=hR;cases e
    obtain ⟨_,rfl⟩:=hR
    have w2:IntKind.wrap .i64 ((D.length:Int)+2 * s+((2 * s:Nat):Int))=(D.length:Int)+2 * s+2 * s:=by rw [wrap64] <;> omega
    simp [w1,w2]
    have hl:(isort (ltOf' cf) (X ++ Y)).length=2 * s:=by simp [hX,hY];omega
    have hl2:(X ++ Y).length=2 * s:=by simp [hX,hY];omega
    refine NX.go (D ++ isort (ltOf' cf) (X ++ Y),Z) (by simp;omega) ⟨by simp at i1 |-;omega,fun x hx=>i3 x (by simp [hx]),by rw [<- i4,<- List.append_assoc X Y Z,blocks_append (by omega) hl2];simp⟩ ?_
    simp [nbs_only _ (hcap 0),GH.set_set,hX,hY]
    exact ⟨by omega,by rw [wrap64] <;> omega⟩
   ·refine ⟨fun hc=>⟨⟨hnx _,hcap _⟩,?_⟩,fun hc=>?_⟩
    ·obtain ⟨X,Y,rfl,hX⟩:∃ X Y,R=X ++ Y/\X.length=s:=⟨R.take s,R.drop s,(List.take_append_drop _ _).symm,by simp;omega⟩
     have hYl:0 < Y.length/\Y.length < s:=by simp at i1;omega
     have e1:blocks (ltOf' cf) s (X ++ Y)=isort (ltOf' cf) X ++ (isort (ltOf' cf) Y ++ []):=by rw [blocks_append s1 hX,blocks_few (by omega),List.append_nil]
     have e2:blocks (ltOf' cf) (2 * s) (X ++ Y)=isort (ltOf' cf) (X ++ Y):=blocks_few (by simp;omega)
     have hr:=loose_symMerge p cf hO F cap hcap hcf _ D (isort (ltOf' cf) X) (isort (ltOf' cf) Y) [] (Nat.le_refl _) (fun e=>by have:=congrArg List.length e;simp at this;simp [this] at hX;omega) (fun e=>by have:=congrArg List.length e;simp at this;simp [this] at hYl)
      (fun x hx=>i3 x (by simp [(isort_perm X).mem_iff.1 hx])) (fun x hx=>i3 x (by simp [(isort_perm Y).mem_iff.1 hx])) (isort_sorted hO X) (isort_sorted hO Y) N D.length (D.length+s) N (by simp at i1 |-;omega) hsz rfl (by simp [hX]) (by simp at i1 |-;omega) n g ex (H.set n (vecO rLoose 181 g 6 (D ++ blocks (ltOf' cf) s (X ++ Y)).toArray ex)) (by rw [e1];exact ob _)
     rw [isort_append hO] at hr
     simp at hr
     refine EC.of hr (fun v H2 hR=>?_) (fun v H2 hR=>?_)
     rotate_left
     ·obtain ⟨⟨_,e⟩,_⟩:=hR;cases e
     obtain ⟨_,rfl⟩:=hR
     have w3:IntKind.wrap .i64 ((s:Int) * 2)=((2 * s:Nat):Int):=by rw [wrap64] <;> omega
     simp [w3]
     refine NX.go (2 * s) (by omega) (by omega) ?_
     rw [<- i4,e2]
     simp [nbs_only _ (hcap 0),GH.set_set]
    ·have w3:IntKind.wrap .i64 ((s:Int) * 2)=((2 * s:Nat):Int):=by rw [wrap64] <;> omega
     simp [w3]
     refine NX.go (2 * s) (by omega) (by omega) ?_
     rw [<- i4,blocks_few (s:=s) (by omega),blocks_few (s:=2 * s) (by omega)]
     simp [nbs_only _ (hcap 0),GH.set_set]
  ·rw [blocks_few (by omega)]
   exact fun hz=>hz.drop (by rw [GH.set_next];exact Nat.le_refl _)
theorem loose_SortStable (p:Loose->Prop) (cf:Loose->Loose->Int) (hO:SWO (ltOf' cf)) (F:FuncId) (cap:List LV) (hcap:∀ n,nbs n cap) (hcf:∀ x y,p x->p y->AFun prog F ([lv (rLoose x),lv (rLoose y)] ++ cap) (lvI (cf x y)))
  (O:List Loose) (hp:∀ x ∈ O,p x) (hsz:O.length<=1000) (n g:Nat) (ex:Bool) (H:GH) (ho:H.obj n=some (vecO rLoose 181 g 6 O.toArray ex)) :
  ECall prog 100 [.vs n g 6 0 O.length,.fn (.func F) [] cap] H fun ce H'=>(∃ v,ce=.ret v)/\H'=H.set n (vecO rLoose 181 g 6 (isort (ltOf' cf) O).toArray ex):=by
 have cc:=cxK_ok (p:=kds [] [] [])
 refine ECall.bodyN (cxK_ok (p:=kds [] [] [])) func100 rfl call100 (by rw [ntmps100];simp) rfl fun hf hw=>?_
 have ln:=hw.lt ho
 have hst:=loose_stable p cf hO F cap hcap hcf O hp O.length rfl hsz n g ex H ho
 simp [ntmps100,results100] at hst |-
 simp [ln,hcap]
 refine EC.of hst (fun v H2 hR=>?_) (fun v H2 hR=>?_)
 ·obtain ⟨_,rfl⟩:=hR
  simp
  exact fun hz=>hz.drop (by rw [GH.set_next];exact Nat.le_refl _)
 ·obtain ⟨⟨_,e⟩,_⟩:=hR;cases e
end Go.Aft
end
