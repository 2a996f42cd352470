import Derived.Test.YthinedikejlgmaaGreatA36
import Derived.Test.YthinedikejlgmaaGreatA22
set_option linter.all false
section
set_option maxRecDepth 20000
namespace Go.Aft
open Go.Proofs.Tryz
theorem AW.nbZ {P:Program} {rd:RD} {x:Code} {s:S} {Q:QT} (h:nbH s.H->@AW P rd ⟨x⟩ s Q):@AW P rd ⟨x⟩ s Q:=fun E a w hs=>h hs.nbH E a w hs
def OwnL (N:Nat) (x:LV) (rows:List (List DV)) (G:GH):Prop:=AppX 86 4 ⟨G.obj,N⟩ x rows G
theorem OwnL.set {N:Nat} {x:LV} {rows:List (List DV)} {G:GH} (h:OwnL N x rows G) {k:Nat} (hk:k < N) (o:GO):OwnL N x rows (G.set k o):=by
 refine ⟨?_,h.nx,fun m hm=>rfl⟩
 rcases h.is with q | ⟨n,q1,q2,q3,q4⟩
 ·exact .inl q
 ·simp only at q1
  exact .inr ⟨n,q1,q2,q3,by rw [GH.a0f,if_neg (by omega)];exact q4⟩
theorem OwnL.nil {N:Nat} {G:GH} (h:N<=G.next):OwnL N (.d (.k (.slice none 0 0))) [] G:=⟨.inl ⟨rfl,rfl⟩,h,fun _ _=>rfl⟩
theorem OwnL.of {N:Nat} {B:GH} (hB:B.next=N) {x:LV} {rows:List (List DV)} {G:GH} (h:AppX 86 4 B x rows G):OwnL N x rows G:=by
 refine ⟨?_,hB ▸ h.nx,fun m hm=>rfl⟩
 rcases h.is with q | ⟨n,q1,q2,q3,q4⟩
 ·exact .inl q
 ·exact .inr ⟨n,by simp only;omega,q2,q3,q4⟩
theorem a6a {α β:Type} {f:α->List β} {B:Nat} (h:∀ a,(f a).length<=B):∀ l:List α,(l.flatMap f).length<=l.length * B
 | []=>by simp
 | a :: l=>by
  have:=a6a h l
  have:=h a
  rw [List.flatMap_cons,List.length_append,List.length_cons,Nat.succ_mul];omega
theorem b4v:∀ l:List Item,(keysOf l).length<=l.length
 | []=>by simp [keysOf]
 | x :: l=>by
  have:=b4v l
  have:=List.length_filter_le (fun k=>decide (k ≠ x.rec_.key)) (keysOf l)
  rw [keysOf,List.length_cons,List.length_cons];omega
theorem a5o {f more key:Int} {sp:Int->Option (Int × Int)} {row:List Item}:∀ (l:List Item) (last:Int),(a2q f more key sp row l last).length<=l.length
 | [],_=>by simp [a2q]
 | x :: l,last=>by
  rw [a2q]
  split
  ·have:=a5o (f:=f) (more:=more) (key:=key) (sp:=sp) (row:=row) l last
   rw [List.length_cons];omega
  ·rename_i low high _
   split
   ·have:=a5o (f:=f) (more:=more) (key:=key) (sp:=sp) (row:=row) l last
    rw [List.length_cons];omega
   ·have:=a5o (f:=f) (more:=more) (key:=key) (sp:=sp) (row:=row) l high
    rw [List.length_cons,List.length_cons];omega
def a3m (b:List Item) (seen:List Nat):List Int:=seen.map fun i=>(keysOf b).getD i 0
theorem b9h {b:List Item} {seen:List Nat} (hn:seen.Nodup) (hb:∀ i ∈ seen,i < (keysOf b).length) (ha:∀ i,i < (keysOf b).length->i ∈ seen):(a3m b seen).Perm (keysOf b):=by
 have h1:seen.Perm (List.range (keysOf b).length):=by
  rw [List.perm_ext_iff_of_nodup hn List.nodup_range]
  exact fun i=>⟨fun q=>List.mem_range.2 (hb i q),fun q=>ha i (List.mem_range.1 q)⟩
 have h2:(List.range (keysOf b).length).map (fun i=>(keysOf b).getD i 0)=keysOf b:=by
  refine List.ext_getElem (by simp) fun i h1 h2=>?_
  simp only [List.length_map,List.length_range] at h1
  simp [List.getD,List.getElem?_eq_getElem h1]
 have:=h1.map fun i=>(keysOf b).getD i 0
 rw [h2] at this
 exact this
def b1l (f more:Int) (sp:List Item->Int->Option (Int × Int)) (b:List Item) (seen:List Nat):List Item:=(a3m b seen).flatMap (b4e f more sp b)
theorem d9b (f more:Int) (sp:List Item->Int->Option (Int × Int)) (b:List Item) (hb:b.length<=300) {seen:List Nat} (hn:seen.Nodup) (hs:∀ i ∈ seen,i < (keysOf b).length):(b1l f more sp b seen).length<=90000:=by
 have h1:=a6a (f:=b4e f more sp b) (B:=300) (fun k=>Nat.le_trans (a5o _ _) (Nat.le_trans (List.length_filter_le _ _) hb)) (a3m b seen)
 have h2:=a3f _ _ hn hs
 have h3:=b4v b
 have h4:(a3m b seen).length=seen.length:=by simp [a3m]
 have h5:seen.length * 300<=300 * 300:=Nat.mul_le_mul_right _ (by omega)
 unfold b1l
 omega
theorem row_mem {k:Int} {b:List Item} {x:Item} (h:x ∈ rowOf k b):x ∈ b/\x.rec_.key=k:=by simpa [rowOf] using h
theorem b0v (e:Exp) (b:List Item) (F:FuncId) (cap:List LV) (hcap:∀ m,nbs m cap) (sp:List Item->Int->Option (Int × Int)) (more:Int) (hlen:b.length<=300) (hit:∀ x ∈ b,itOk x)
  (hsp:∀ k,∀ x ∈ rowOf k b,AFun prog F ([sl ((rowOf k b).map a0i),lvI x.rec_.at_] ++ cap) (spV (sp (rowOf k b) x.rec_.at_)))
  (hbd:∀ k,∀ x ∈ rowOf k b,∀ lo hi,sp (rowOf k b) x.rec_.at_=some (lo,hi)->0<=hi/\hi<=1000) (hmore:0<=more/\more<=1000) (H:GH) :
  a0j prog 228 [lv (rExp e),sl (b.map a0i),.fn (.func F) [] cap,lvI more] H fun ce H'=>(∃ l':List Item,l'.Perm (a4h e.fold more sp b)/\ce=.ret (sl (l'.map a0i)))/\H'=H:=by
 have cc:=a4i (r:=none) (f:=228) (p:=kds [4,6,7] [9] [])
 have ccR:∀ l,(cxF (some l) 228 (kds [4,6,7] [9] [])).ok prog:=fun l=>a4i
 refine a0j.a3a (a4i (r:=none) (f:=228) (p:=kds [4,6,7] [9] [])) func228 rfl call228 (by rw [ntmps228];simp) rfl fun hf hw=>?_
 have hkd:=c2o b (by omega) (H.add (.box [.d (.k (.slice none 0 0))]))
 simp at hkd
 have honl:a3c [] cap:=a1r _ (hcap 0)
 simp [ntmps228,results228] at hf |-
 refine AW.seq cc ?_
 simp
 refine AW.seq cc ?_
 simp
 refine AW.seq cc ?_
 simp
 refine EC.of hkd (fun v H2 hR=>?_) (fun v H2 hR=>by cases hR.1)
 obtain ⟨q,n2,o2,b2,m2⟩:=hR
 cases q
 rw [GH.a0a] at n2 b2 m2 o2
 have oo:H2.obj H.next=some (.box [.d (.k (.slice none 0 0))]):=by rw [o2 _ (by omega),GH.a0b,if_pos rfl]
 have ol:∀ m,m < H.next->H2.obj m=H.obj m:=fun m hm=>by rw [o2 m (by omega),GH.a0b,if_neg (by omega)]
 clear o2
 simp
 refine AW.nbZ (fun hz2=>?_)
 simp only at hz2
 refine AWp.rangeFunc rfl rfl (f:=279) (first:=[]) (cap:=[.gp (H.next+1+1) 0]) (by simp [GH.a0a]) (by simp)
  [(4,ipE e),(6,.ip [.fn (.func F) [] cap] 0),(7,.ip [lvI more] 0),(9,.gp H.next 0)] (by simp [allL,ipE,GH.a0a]) (by simp [allL,LV.nb,nbs,ipE,hcap];omega) (by simp [nbs,LV.nb];omega) ?_
 simp only [LS.s_mk,List.nil_append,List.singleton_append]
 generalize hx:LP.mk _ _ _ _ _ _ _=x
 have hxf:x.f=228:=by rw [<- hx]
 have hxd:x.d=H2.next:=by rw [<- hx]
 obtain ⟨D,hD⟩:∃ D,H2.next=D:=⟨_,rfl⟩
 have hDn:((H2.add .dfr).add (x.go .ready none)).next=D+2:=by rw [GH.a0a,GH.a0a,hD]
 obtain ⟨J,hJ⟩:∃ J:List Nat->GO->GH->Prop,J=fun seen X G=>seen.Nodup/\(∀ i ∈ seen,i < (keysOf b).length)/\G.obj (D+1)=some (x.go .ready none)/\G.obj D=some .dfr/\G.obj (D+2)=some X/\(∀ m,m < D->m ≠ H.next->G.obj m=H2.obj m) /\
  ∃ y,G.obj H.next=some (.box [y])/\OwnL (D+3) y ((b1l e.fold more sp b seen).map a0i) G:=⟨_,rfl⟩
 have hkw:=b8u (n:=D+1) (nb:=H.next+1+1) (m:=H.next+1) (b:=b) (H0:=(H2.add .dfr).add (x.go .ready none)) (J:=J) (by rw [GH.a0b,GH.a0a,if_neg (by omega),GH.a0b,if_neg (by omega)];exact b2)
  (by rw [GH.a0b,GH.a0a,if_neg (by omega),GH.a0b,if_neg (by omega)];exact m2) ?_ ?_ ?_ ?_
 ·rw [hD]
  refine hkw.mono fun ce H3 hR=>?_
  obtain ⟨⟨v,hv⟩,seen,X,s1,s2,s3,hj⟩:=hR
  subst hv
  rw [hJ] at hj
  obtain ⟨_,_,q1,q2,q3,q4,y,q5,q6⟩:=hj
  refine ⟨.ready,none,q1,by simp,?_⟩
  simp [c8s,hxd]
  have o31:(H3.set (D+1) (x.go .exhausted none)).obj H.next=some (.box [y]):=by rw [GH.a0f,if_neg (by omega)];exact q5
  have hyp:=q6.plain.all
  refine AW.ev cc ?_
  simp [o31,hyp,q6.fz]
  have hnx:=q6.nx
  simp only at hnx
  refine fun _=>⟨by rw [hD,GH.a0f,if_neg (by omega)];exact q2,a0m (by simp only [GH.a0l];omega) (fun m hm=>?_) hw.none,b1l e.fold more sp b seen,(b9h s1 s2 s3).flatMap_right _,rfl⟩
  simp only [a7e,GH.a0f]
  rw [if_neg (by omega),if_neg (by omega),q4 m (by omega) (by omega)]
  exact ol m hm
 ·intro X
  rw [hJ]
  refine ⟨by simp,by simp,?_,?_,?_,fun m hm hne=>?_,.d (.k (.slice none 0 0)),?_,?_⟩
  ·rw [GH.a0b,hDn,if_neg (by omega),GH.a0b,GH.a0a,hD,if_pos rfl]
  ·rw [GH.a0b,hDn,if_neg (by omega),GH.a0b,GH.a0a,hD,if_neg (by omega),GH.a0b,hD,if_pos rfl]
  ·rw [GH.a0b,hDn,if_pos rfl]
  ·rw [GH.a0b,hDn,if_neg (by omega),GH.a0b,GH.a0a,hD,if_neg (by omega),GH.a0b,hD,if_neg (by omega)]
  ·rw [GH.a0b,hDn,if_neg (by omega),GH.a0b,GH.a0a,hD,if_neg (by omega),GH.a0b,hD,if_neg (by omega)];exact oo
  ·exact OwnL.nil (by rw [GH.a0a,hDn];omega)
 ·intro seen X Y G hj
  rw [hDn]
  rw [hJ] at hj |-
  obtain ⟨s1,s2,q1,q2,q3,q4,y,q5,q6⟩:=hj
  exact ⟨s1,s2,by rw [GH.a0f,if_neg (by omega)];exact q1,by rw [GH.a0f,if_neg (by omega)];exact q2,by rw [GH.a0n],fun m hm hne=>by rw [GH.a0f,if_neg (by omega)];exact q4 m hm hne,y,by rw [GH.a0f,if_neg (by omega)];exact q5,q6.set (by omega) _⟩
 ·intro seen X G hj
  rw [hDn]
  rw [hJ] at hj
  obtain ⟨s1,s2,q1,q2,q3,q4,y,q5,q6⟩:=hj
  have:=q6.nx
  exact ⟨this,q3,by rw [q4 _ (by omega) (by omega)];exact m2⟩
 ·intro seen i k X G hk hi hsl hz1 hj
  rw [hJ] at hj
  obtain ⟨s1,s2,q1,q2,q3,q4,y,q5,q6⟩:=hj
  refine a2v.ofN (c:=fun l=>cxF (some l) 228 (kds [4,6,7] [9] [])) ccR (fun l=>by simp [hxf]) q1 ⟨_,by rw [hxf];exact func228⟩ (by rw [<- hx];rfl) (by rw [<- hx];simp) fun hz l=>?_
  have xa:=(congrArg LP.asn hx).symm
  have xb:=(congrArg LP.body hx).symm
  have xe:=(congrArg LP.env hx).symm
  have xp:=(congrArg LP.ps hx).symm
  have xn:=(congrArg LP.nt hx).symm
  dsimp only at xa xb xe xp xn
  rw [xa,xb,xe,xp,xn]
  clear xa xb xe xp xn hx
  obtain ⟨row,hrow⟩:∃ row,rowOf k b=row:=⟨_,rfl⟩
  have hrl:row.length<=300:=by rw [<- hrow];exact Nat.le_trans (List.length_filter_le _ _) hlen
  have hspk:=hsp k
  have hbdk:=hbd k
  rw [hrow] at hspk hbdk |-
  simp [putAll]
  refine ⟨q1,?_⟩
  generalize hob:x.go .busy none=ob
  obtain ⟨G3,hG3⟩:∃ G3,G.set (D+1) ob=G3:=⟨_,rfl⟩
  have c3:∀ m,m ≠ D+1->G3.obj m=G.obj m:=fun m hm=>by rw [<- hG3,GH.a0f,if_neg (by omega)]
  have oy:G3.obj (D+1)=some ob:=by rw [<- hG3,GH.a0n]
  have n3:G3.next=G.next:=by rw [<- hG3];rfl
  rw [hG3]
  have q63:OwnL (D+3) y ((b1l e.fold more sp b seen).map a0i) G3:=by rw [<- hG3];exact q6.set (by omega) _
  have hgx:=q63.nx
  simp only at hgx
  refine AW.ev (ccR l) ?_
  simp
  refine AW.a0w (ccR l) (fun a:Nat × Int × LV × GH=>⟨[(4,ipE e),(6,.ip [.fn (.func F) [] cap] 0),(7,.ip [lvI more] 0),(9,.gp H.next 0),(10,lvI k),(11,sl (row.map a0i)),(12,lvI a.2.1),(22,sl (row.map a0i)),(23,lvI row.length),(24,lvI a.1)],[],a.2.2.2⟩) (fun a=>row.length - a.1)
   (fun a=>a.1<=row.length/\G.next<=a.2.2.2.next/\a.2.2.2.obj (D+1)=some ob/\a.2.2.2.obj D=some .dfr/\a.2.2.2.obj (D+2)=some X/\(∀ m,m < D->m ≠ H.next->a.2.2.2.obj m=H2.obj m)/\a.2.2.2.obj H.next=some (.box [a.2.2.1]) /\
    ∃ dn,dn.length<=a.1/\a2q e.fold more k (sp row) row row (-1)=dn ++ a2q e.fold more k (sp row) row (row.drop a.1) a.2.1/\OwnL (D+3) a.2.2.1 ((b1l e.fold more sp b seen ++ dn).map a0i) a.2.2.2)
   (0,-1,y,G3) ⟨⟨Nat.zero_le _,by simp only;omega,oy,by rw [c3 _ (by omega)];exact q2,by rw [c3 _ (by omega)];exact q3,fun m hm hne=>by rw [c3 _ (by omega)];exact q4 m hm hne,by rw [c3 _ (by omega)];exact q5,[],by simp,by simp,by simpa using q63⟩,by simp [ipE,a0c,honl]⟩ ?_
  rintro ⟨j,last,y2,G4⟩ ⟨hj,r0,r1,r2,r3,r4,r5,dn,hdl,hsr,hown⟩
  simp only at hj r0 r1 r2 r3 r4 r5 hdl hsr hown
  simp
  refine ⟨fun h=>?_,fun h=>?_⟩
  ·obtain ⟨z,hze⟩:∃ z,row[j]=z:=⟨_,rfl⟩
   have hzm:z ∈ row:=by rw [<- hze];exact List.getElem_mem h
   have hdr:row.drop j=z :: row.drop (j+1):=by rw [<- hze];exact List.drop_eq_getElem_cons h
   have hzs:=hspk z hzm
   have hzb:=hbdk z hzm
   simp at hzs
   simp [h,List.getElem?_eq_getElem h,hze,a0i]
   refine ⟨hcap _,EC.afun hzs ?_⟩
   rw [hdr,a2q] at hsr
   have hw':=wrap_succ (n:=9223372036854775807) (show j < 9223372036854775807 by omega)
   cases hq:sp row z.rec_.at_ with
   | none =>
    rw [hq] at hsr
    simp [spV]
    exact NX.go (j+1,last,y2,G4) (by simp only;omega) ⟨h,r0,r1,r2,r3,r4,r5,dn,by simp only;omega,hsr,hown⟩ (by simp [hw',ipE,a0c,honl])
   | some lh =>
    obtain ⟨lo,hi'⟩:=lh
    rw [hq] at hsr hzb
    have hzb:=hzb lo hi' rfl
    simp only at hsr
    simp [spV]
    refine ⟨fun e1=>?_,fun e1=>?_⟩
    ·rw [if_pos e1] at hsr
     exact NX.go (j+1,last,y2,G4) (by simp only;omega) ⟨h,r0,r1,r2,r3,r4,r5,dn,by simp only;omega,hsr,hown⟩ (by simp [hw',ipE,a0c,honl])
    ·rw [if_neg e1] at hsr
     have hwi:=a8g row lo hi'
     have hfo:=c8j e.fold (a1a lo hi' row) (Nat.le_trans ((List.takeWhile_sublist _).trans (List.dropWhile_sublist _)).length_le (by omega)) (fun x hx=>hit x (row_mem (k:=k) (by rw [hrow];exact a5i hx)).1)
     have w1:IntKind.wrap .i64 (hi' + more)=hi' + more:=by rw [wrap64] <;> omega
     simp at hwi hfo
     refine AW.draw (ccR l) [(10,.n),(11,.n)] (.q 1<|.q 4<|.q 5<|.q 7<|.q 8<|.q 9<|.q 10<|.q 0<|.q 2<|.q 3<|.q 6<|.q 11<|.q 12<|.q 13<|.q 14<|.f<|.one 15<|.f<|.one 16<|.done) (by kernel_rfl) ?_
     have hyp:=hown.plain.all
     simp [r5,ipE,a0c,hyp]
     refine FC.afun hwi ?_
     simp [r5,ipE,a0c,hyp,w1]
     refine FC.afun hfo ?_
     simp [hyp]
     have hdl2:=d9b e.fold more sp b hlen s1 s2
     refine APK.appX (H0:=⟨G4.obj,D+3⟩) (ys:=[a0i ⟨⟨hi' + more,k,b3l e.fold (a1a lo hi' row)⟩,1⟩]) tyE29 rfl tyE86 (by simp) (x:=y2) (by simp) hown (by simp [rowsOf,a0i]) (by simp) (a1b _) (fun r hr=>by simp only [List.mem_singleton] at hr;subst hr;rfl) (by simp;omega) (by simp) fun x' H5 h5 hn5 _=>?_
     simp only at hn5
     have hx5:=h5.nx
     simp only at hx5
     have o5:H5.obj H.next=some (.box [y2]):=by rw [h5.ob _ (by simp only;omega)];exact r5
     have hlt5:H.next < H5.next:=by omega
     simp [o5,h5.plain.all,h5.nb]
     have h6:OwnL (D+3) x' ((b1l e.fold more sp b seen ++ (dn ++ [(⟨⟨hi' + more,k,b3l e.fold (a1a lo hi' row)⟩,1⟩:Item)])).map a0i) (H5.set H.next (.box [x'])):=by
      have h6:OwnL (D+3) x' _ H5:=OwnL.of (B:=⟨G4.obj,D+3⟩) rfl h5
      have h7:=h6.set (k:=H.next) (by omega) (.box [x'])
      rw [<- List.append_assoc,List.map_append];exact h7
     have hsr2:a2q e.fold more k (sp row) row row (-1)=(dn ++ [⟨⟨hi' + more,k,b3l e.fold (a1a lo hi' row)⟩,1⟩]) ++ a2q e.fold more k (sp row) row (row.drop (j+1)) hi':=by rw [hsr];simp
     have hgo:=fun (m:Nat) (hm:m < D+3) (hne:m ≠ H.next) (o:Option GO) (hh:G4.obj m=o)=>(show (H5.set H.next (.box [x'])).obj m=o by rw [GH.a0f,if_neg hne,h5.ob _ (by simp only;omega)];exact hh)
     have hdl3:(dn ++ [(⟨⟨hi' + more,k,b3l e.fold (a1a lo hi' row)⟩,1⟩:Item)]).length<=j+1:=by rw [List.length_append];simp;omega
     exact NX.go (j+1,hi',x',H5.set H.next (.box [x'])) (by simp only;omega) ⟨h,by simp only [GH.a0l];omega,hgo _ (by omega) (by omega) _ r1,hgo _ (by omega) (by omega) _ r2,hgo _ (by omega) (by omega) _ r3,fun m hm hne=>hgo m (by omega) hne _ (r4 m hm hne),GH.a0n,_,hdl3,hsr2,h6⟩ (by simp [hw',ipE,a0c,honl])
  ·have e1:j=row.length:=by omega
   subst e1
   rw [List.drop_length,a2q,List.append_nil] at hsr
   have hnx:=hown.nx
   simp only at hnx
   intro hz4
   refine ⟨⟨.busy,none,by rw [hob];exact r1⟩,G4.set (D+1) (x.go .ready none),?_,?_⟩
   ·exact (hz4.set (by omega) (GO.a3g r0 (hz1.nb _ _ q1))).drop (by rw [GH.a0l];omega)
   ·rw [hJ]
    have hsn:(seen ++ [i]).Nodup:=by
     rw [List.nodup_append]
     exact ⟨s1,by simp,fun a ha b hb=>by simp at hb;subst hb;intro q;subst q;exact hi ha⟩
    have hall:∀ j ∈ seen ++ [i],j < (keysOf b).length:=fun j hj=>by
     rcases List.mem_append.1 hj with q | q
     ·exact s2 j q
     ·simp at q;subst q;exact (List.getElem?_eq_some_iff.1 hk).1
    have hsd:b1l e.fold more sp b (seen ++ [i])=b1l e.fold more sp b seen ++ dn:=by
     have:(keysOf b).getD i 0=k:=by simp [List.getD,hk]
     simp only [b1l,a3m,List.map_append,List.map_cons,List.map_nil,List.flatMap_append,List.flatMap_cons,List.flatMap_nil,List.append_nil,this,b4e,hrow,hsr]
    refine ⟨hsn,hall,GH.a0n,by rw [GH.a0f,if_neg (by omega)];exact r2,by rw [GH.a0f,if_neg (by omega)];exact r3,fun m hm hne=>by rw [GH.a0f,if_neg (by omega)];exact r4 m hm hne,y2,by rw [GH.a0f,if_neg (by omega)];exact r5,?_⟩
    rw [hsd];exact hown.set (by omega) _
end Go.Aft
end
section
set_option maxRecDepth 20000
namespace Go.Aft
open Go.Proofs.Tryz
theorem c7x {α:Type} {l:List α} (h:l.Nodup) {i j:Nat} (hi:i < l.length) (hj:j < l.length) (e:l[i]=l[j]):i=j:=by
 have hp:=List.pairwise_iff_getElem.1 h
 rcases Nat.lt_trichotomy i j with q | q | q
 ·exact absurd e (hp i j hi hj q)
 ·exact q
 ·exact absurd e.symm (hp j i hj hi q)
theorem e0r {b:List Item} {seen:List Nat} (hs:∀ i ∈ seen,i < (keysOf b).length) {i:Nat} {k:Int} (hk:(keysOf b)[i]?=some k) (hi:i ∉ seen):k ∉ a3m b seen:=by
 intro h
 obtain ⟨j,hj,e⟩:=List.mem_map.1 h
 have hjl:=hs j hj
 have hil:=(List.getElem?_eq_some_iff.1 hk).1
 have hik:=(List.getElem?_eq_some_iff.1 hk).2
 simp only [List.getD,List.getElem?_eq_getElem hjl,Option.getD_some] at e
 have:=c7x (a4s b) hjl hil (e.trans hik.symm)
 exact hi (this ▸ hj)
theorem c8q {b:List Item} {seen:List Nat} (hn:seen.Nodup) (hs:∀ i ∈ seen,i < (keysOf b).length):(a3m b seen).Nodup:=by
 unfold a3m
 rw [List.Nodup,List.pairwise_map]
 refine List.Pairwise.imp_of_mem (fun {i j} hi hj hne e=>?_) hn
 simp only [List.getD,List.getElem?_eq_getElem (hs i hi),List.getElem?_eq_getElem (hs j hj),Option.getD_some] at e
 exact hne (c7x (a4s b) (hs i hi) (hs j hj) e)
theorem hmnb (N:Nat) {b:List Item} (ks:List Int):(GO.map (esI ks (rowE b))).nb N:=by
 unfold GO.nb
 induction ks with
 | nil=>simp [esI,nbs]
 | cons k ks ih=>exact ⟨trivial,ih⟩
theorem b2f (b:List Item) (hlen:b.length<=300) (H:GH) :
  a0j prog 234 [sl (b.map a0i)] H fun ce H'=>∃ m ks,ce=.ret (.gm m)/\H.next<=m/\m < H'.next/\H'.obj m=some (.map (esI ks (rowE b)))/\ks.Perm (keysOf b)/\(∀ i,i < H.next->H'.obj i=H.obj i):=by
 have cc:=a4i (r:=none) (f:=234) (p:=kds [] [3] [])
 have ccR:∀ l,(cxF (some l) 234 (kds [] [3] [])).ok prog:=fun l=>a4i
 refine a0j.a3a (a4i (r:=none) (f:=234) (p:=kds [] [3] [])) func234 rfl call234 (by rw [ntmps234];simp) rfl fun hf hw=>?_
 simp [ntmps234,results234] at hf |-
 refine AW.seq cc ?_
 simp
 refine AW.seq cc ?_
 simp [GH.a0b,GH.a0a]
 refine ⟨by omega,?_⟩
 obtain ⟨H1,hH1⟩:∃ H1,((H.add (GO.map [])).add (GO.box [LV.d (DV.k (Value.map none))])).set (H.next+1) (GO.box [LV.gm H.next])=H1:=⟨_,rfl⟩
 have n1:H1.next=H.next+2:=by rw [<- hH1];rfl
 have b1:H1.obj (H.next+1)=some (.box [.gm H.next]):=by rw [<- hH1,GH.a0n]
 have m1:H1.obj H.next=some (.map []):=by rw [<- hH1,GH.a0f,if_neg (by omega),GH.a0b,if_neg (by rw [GH.a0a];omega),GH.a0b,if_pos rfl]
 have o1:∀ m,m < H.next->H1.obj m=H.obj m:=fun m hm=>by rw [<- hH1,GH.a0f,if_neg (by omega),GH.a0b,if_neg (by rw [GH.a0a];omega),GH.a0b,if_neg (by omega)]
 rw [hH1]
 clear hH1
 have hkd:=c2o b (by omega) H1
 simp at hkd
 refine AW.seq cc ?_
 simp
 refine EC.of hkd (fun v H2 hR=>?_) (fun v H2 hR=>by cases hR.1)
 obtain ⟨q,n2,o2,b2,m2⟩:=hR
 cases q
 rw [n1] at n2 b2 m2 o2
 have b12:H2.obj (H.next+1)=some (.box [.gm H.next]):=by rw [o2 _ (by omega)];exact b1
 have m12:H2.obj H.next=some (.map []):=by rw [o2 _ (by omega)];exact m1
 have ol:∀ m,m < H.next->H2.obj m=H.obj m:=fun m hm=>by rw [o2 m (by omega)];exact o1 m hm
 clear o2
 simp [n1]
 refine AW.nbZ (fun hz2=>?_)
 simp only at hz2
 refine AWp.rangeFunc rfl rfl (f:=279) (first:=[]) (cap:=[.gp (H.next+2+1) 0]) (by simp [GH.a0a]) (by simp)
  [(3,.gp (H.next+1) 0)] (by simp [allL]) (by simp [allL,LV.nb,nbs];omega) (by simp [nbs,LV.nb];omega) ?_
 simp only [LS.s_mk,List.nil_append,List.singleton_append]
 generalize hx:LP.mk _ _ _ _ _ _ _=x
 have hxf:x.f=234:=by rw [<- hx]
 have hxd:x.d=H2.next:=by rw [<- hx]
 obtain ⟨D,hD⟩:∃ D,H2.next=D:=⟨_,rfl⟩
 have hDn:((H2.add .dfr).add (x.go .ready none)).next=D+2:=by rw [GH.a0a,GH.a0a,hD]
 obtain ⟨J,hJ⟩:∃ J:List Nat->GO->GH->Prop,J=fun seen X G=>seen.Nodup/\(∀ i ∈ seen,i < (keysOf b).length)/\D+3<=G.next/\G.obj (D+1)=some (x.go .ready none)/\G.obj D=some .dfr/\G.obj (D+2)=some X/\(∀ m,m < D->m ≠ H.next->G.obj m=H2.obj m) /\
  G.obj H.next=some (.map (esI (a3m b seen) (rowE b))):=⟨_,rfl⟩
 have hkw:=b8u (n:=D+1) (nb:=H.next+2+1) (m:=H.next+2) (b:=b) (H0:=(H2.add .dfr).add (x.go .ready none)) (J:=J) (by rw [GH.a0b,GH.a0a,if_neg (by omega),GH.a0b,if_neg (by omega)];exact b2)
  (by rw [GH.a0b,GH.a0a,if_neg (by omega),GH.a0b,if_neg (by omega)];exact m2) ?_ ?_ ?_ ?_
 ·rw [hD]
  refine hkw.mono fun ce H3 hR=>?_
  obtain ⟨⟨v,hv⟩,seen,X,s1,s2,s3,hj⟩:=hR
  subst hv
  rw [hJ] at hj
  obtain ⟨_,_,q0,q1,q2,q3,q4,q5⟩:=hj
  refine ⟨.ready,none,q1,by simp,?_⟩
  simp [c8s,hxd]
  have o31:(H3.set (D+1) (x.go .exhausted none)).obj (H.next+1)=some (.box [.gm H.next]):=by rw [GH.a0f,if_neg (by omega),q4 _ (by omega) (by omega)];exact b12
  refine AW.ev cc ?_
  simp [o31]
  refine fun _=>⟨by rw [hD,GH.a0f,if_neg (by omega)];exact q2,H.add (.map (esI (a3m b seen) (rowE b))),c6k (by simp only [GH.a0l,GH.a0a];omega) (fun m hm=>?_) (hw.add (hmnb _ _)) (by rw [GH.a0a];omega),by rw [GH.a0a];omega,a3m b seen,by rw [GH.a0b,if_pos rfl],b9h s1 s2 s3,fun i hi=>by rw [GH.a0b,if_neg (by omega)]⟩
  rw [GH.a0a] at hm
  simp only [a7e,GH.a0f,GH.a0b]
  rw [if_neg (show ¬ m=H2.next by omega),if_neg (show ¬ m=D+1 by omega)]
  by_cases e:m=H.next
  ·rw [if_pos e,e];exact q5.symm
  ·rw [if_neg e,q4 m (by omega) e,ol m (by omega)]
 ·intro X
  rw [hJ]
  refine ⟨by simp,by simp,?_,?_,?_,?_,fun m hm hne=>?_,?_⟩
  ·rw [GH.a0a,hDn];omega
  ·rw [GH.a0b,hDn,if_neg (by omega),GH.a0b,GH.a0a,hD,if_pos rfl]
  ·rw [GH.a0b,hDn,if_neg (by omega),GH.a0b,GH.a0a,hD,if_neg (by omega),GH.a0b,hD,if_pos rfl]
  ·rw [GH.a0b,hDn,if_pos rfl]
  ·rw [GH.a0b,hDn,if_neg (by omega),GH.a0b,GH.a0a,hD,if_neg (by omega),GH.a0b,hD,if_neg (by omega)]
  ·rw [GH.a0b,hDn,if_neg (by omega),GH.a0b,GH.a0a,hD,if_neg (by omega),GH.a0b,hD,if_neg (by omega)];exact m12
 ·intro seen X Y G hj
  rw [hDn]
  rw [hJ] at hj |-
  obtain ⟨s1,s2,q0,q1,q2,q3,q4,q5⟩:=hj
  exact ⟨s1,s2,q0,by rw [GH.a0f,if_neg (by omega)];exact q1,by rw [GH.a0f,if_neg (by omega)];exact q2,by rw [GH.a0n],fun m hm hne=>by rw [GH.a0f,if_neg (by omega)];exact q4 m hm hne,by rw [GH.a0f,if_neg (by omega)];exact q5⟩
 ·intro seen X G hj
  rw [hDn]
  rw [hJ] at hj
  obtain ⟨s1,s2,q0,q1,q2,q3,q4,q5⟩:=hj
  exact ⟨q0,q3,by rw [q4 _ (by omega) (by omega)];exact m2⟩
 ·intro seen i k X G hk hi hsl hz1 hj
  rw [hJ] at hj
  obtain ⟨s1,s2,q0,q1,q2,q3,q4,q5⟩:=hj
  refine a2v.ofN (c:=fun l=>cxF (some l) 234 (kds [] [3] [])) ccR (fun l=>by simp [hxf]) q1 ⟨_,by rw [hxf];exact func234⟩ (by rw [<- hx];rfl) (by rw [<- hx];simp) fun hz l=>?_
  have xa:=(congrArg LP.asn hx).symm
  have xb:=(congrArg LP.body hx).symm
  have xe:=(congrArg LP.env hx).symm
  have xp:=(congrArg LP.ps hx).symm
  have xn:=(congrArg LP.nt hx).symm
  dsimp only at xa xb xe xp xn
  rw [xa,xb,xe,xp,xn]
  clear xa xb xe xp xn hx
  simp [putAll]
  refine ⟨q1,?_⟩
  generalize hob:x.go .busy none=ob
  obtain ⟨G3,hG3⟩:∃ G3,G.set (D+1) ob=G3:=⟨_,rfl⟩
  have c3:∀ m,m ≠ D+1->G3.obj m=G.obj m:=fun m hm=>by rw [<- hG3,GH.a0f,if_neg (by omega)]
  have oy:G3.obj (D+1)=some ob:=by rw [<- hG3,GH.a0n]
  have n3:G3.next=G.next:=by rw [<- hG3];rfl
  have b13:G3.obj (H.next+1)=some (.box [.gm H.next]):=by rw [c3 _ (by omega),q4 _ (by omega) (by omega)];exact b12
  have m13:G3.obj H.next=some (.map (esI (a3m b seen) (rowE b))):=by rw [c3 _ (by omega)];exact q5
  have hkey:=eq_true (a4y (a3m b seen) (rowE b))
  have hput:=b3c k (rowE b k) (rowE b) (a3m b seen) (c8q s1 s2)
  have hin:=e0r s2 hk hi
  have hsn:(seen ++ [i]).Nodup:=by
   rw [List.nodup_append]
   exact ⟨s1,by simp,fun a ha b hb=>by simp at hb;subst hb;intro q;subst q;exact hi ha⟩
  have hall:∀ j ∈ seen ++ [i],j < (keysOf b).length:=fun j hj=>by
   rcases List.mem_append.1 hj with q | q
   ·exact s2 j q
   ·simp at q;subst q;exact (List.getElem?_eq_some_iff.1 hk).1
  have hka:a3m b (seen ++ [i])=a3m b seen ++ [k]:=by simp [a3m,List.getD,hk]
  rw [if_neg hin] at hput
  have hput2:mput (.int .i64 k) (.d (.sl ((rowOf k b).map a0i))) (esI (a3m b seen) (rowE b))=esI (a3m b (seen ++ [i])) (rowE b):=by
   rw [hka]
   refine hput.trans (a7s fun j hj=>?_)
   by_cases e:j=k
   ·rw [if_pos e,e]
   ·rw [if_neg e]
  rw [hG3]
  refine AW.ev (ccR l) ?_
  simp [b13,m13,hkey,hput2]
  intro hz4
  refine ⟨⟨.busy,none,by rw [GH.a0f,if_neg (by omega),hob];exact oy⟩,(G3.set H.next (.map (esI (a3m b (seen ++ [i])) (rowE b)))).set (D+1) (x.go .ready none),?_,?_⟩
  ·exact (hz4.set (by rw [GH.a0l];omega) (GO.a3g (by rw [GH.a0l];omega) (hz1.nb _ _ q1))).drop (by rw [GH.a0l,GH.a0l];omega)
  ·rw [hJ]
   exact ⟨hsn,hall,by rw [GH.a0l,GH.a0l];omega,GH.a0n,by rw [GH.a0f,if_neg (by omega),GH.a0f,if_neg (by omega),c3 _ (by omega)];exact q2,by rw [GH.a0f,if_neg (by omega),GH.a0f,if_neg (by omega),c3 _ (by omega)];exact q3,
    fun m hm hne=>by rw [GH.a0f,if_neg (by omega),GH.a0f,if_neg hne,c3 _ (by omega)];exact q4 m hm hne,by rw [GH.a0f,if_neg (by omega),GH.a0n]⟩
end Go.Aft
end
section
set_option maxRecDepth 20000
namespace Go.Aft
def inM (n:Nat) (R:Nat->Nat->Bool) (d:Nat):List Nat:=if R d d=true then ringAt n R d else [d]
def a3v (n:Nat) (R:Nat->Nat->Bool) (D:List Nat) (d:Nat):Bool:=!D.contains d && !((List.range n).filter (R d)).any fun k=>!D.contains k && !(inM n R d).contains k
def a2c (D l:List Nat):List Nat:=l.foldl (fun D k=>if k ∈ D then D else D ++ [k]) D
def a2z (n:Nat) (R:Nat->Nat->Bool):Nat->List Nat->List (List Nat)
 | 0,_=>[]
 | f+1,D=>if D.length < n then match (List.range n).find? (a3v n R D) with
  | none=>[]
  | some d=>inM n R d :: a2z n R f (a2c D (inM n R d)) else []
def b0c (n:Nat) (R:Nat->Nat->Bool):List (List Nat):=a2z n R n []
theorem a8r (D:List Nat) (k:Nat) (l:List Nat):a2c D (k :: l)=a2c (if k ∈ D then D else D ++ [k]) l:=rfl
theorem d4d (D l:List Nat) (k:Nat):a2c D (l ++ [k])=if k ∈ a2c D l then a2c D l else a2c D l ++ [k]:=by
 rw [a2c,List.foldl_append];rfl
theorem a2f {x:Nat}:∀ {l D:List Nat},x ∈ a2c D l ↔ x ∈ D \/ x ∈ l
 | [],D=>by simp [a2c]
 | k :: l,D=>by
  rw [a8r,a2f]
  split
  ·rename_i h
   rw [List.mem_cons]
   constructor
   ·rintro (q | q)
    ·exact .inl q
    ·exact .inr (.inr q)
   ·rintro (q | q | q)
    ·exact .inl q
    ·rw [q];exact .inl h
    ·exact .inr q
  ·simp [or_assoc]
theorem a4w:∀ {l D:List Nat},D.Nodup->(a2c D l).Nodup
 | [],D,h=>h
 | k :: l,D,h=>by
  rw [a8r]
  refine a4w ?_
  split
  ·exact h
  ·rename_i q
   rw [List.nodup_append]
   exact ⟨h,by simp,fun a ha b hb=>by simp at hb;subst hb;intro z;subst z;exact q ha⟩
theorem b3x:∀ {l D:List Nat},D.length<=(a2c D l).length
 | [],D=>Nat.le_refl _
 | k :: l,D=>by
  rw [a8r]
  refine Nat.le_trans ?_ b3x
  split
  ·exact Nat.le_refl _
  ·simp
theorem b5g:∀ {l D:List Nat} {d:Nat},d ∈ l->d ∉ D->D.length < (a2c D l).length
 | k :: l,D,d,h,hd=>by
  rw [a8r]
  by_cases e:k ∈ D
  ·rw [if_pos e]
   rcases List.mem_cons.1 h with q | q
   ·rw [q] at hd;exact absurd e hd
   ·exact b5g q hd
  ·rw [if_neg e]
   refine Nat.lt_of_lt_of_le ?_ b3x
   simp
theorem a4n {n:Nat} {R:Nat->Nat->Bool} {d:Nat} (hd:d < n):d ∈ inM n R d:=by
 unfold inM
 split
 ·exact a0z.2 ⟨hd,.inl rfl⟩
 ·simp
theorem c2z {n:Nat} {R:Nat->Nat->Bool} {d k:Nat} (hd:d < n) (h:k ∈ inM n R d):k < n:=by
 unfold inM at h
 split at h
 ·exact (a0z.1 h).1
 ·simp at h;omega
theorem f3j {n:Nat} {R:Nat->Nat->Bool} {d:Nat} (hn:1<=n):(inM n R d).length<=n:=by
 unfold inM
 split
 ·exact Nat.le_trans (List.length_filter_le _ _) (by simp)
 ·simpa using hn
theorem d5i {n:Nat} {R:Nat->Nat->Bool} (ht:∀ i j k,R i j=true->R j k=true->R i k=true) {D:List Nat}:∀ (c d:Nat),((List.range n).filter fun j=>j == d || R d j).length<=c->d < n->d ∉ D->∃ e,e < n/\a3v n R D e=true
 | 0,d,hc,hd,_=>by
  have:d ∈ (List.range n).filter fun j=>j == d || R d j:=List.mem_filter.2 ⟨List.mem_range.2 hd,by simp⟩
  have:=List.length_pos_of_mem this
  omega
 | c+1,d,hc,hd,hD=>by
  cases h:a3v n R D d with
  | true=>exact ⟨d,hd,h⟩
  | false =>
   have hcd:D.contains d=false:=by simpa using hD
   unfold a3v at h
   rw [hcd] at h
   simp only [Bool.not_false,Bool.true_and,Bool.not_eq_false',List.any_eq_true,List.mem_filter,List.mem_range,Bool.and_eq_true,Bool.not_eq_true'] at h
   obtain ⟨k,⟨hk,hdk⟩,h1,h2⟩:=h
   have hkD:k ∉ D:=by simpa using h1
   have hkd:k ≠ d/\R k d=false:=by
    have h3:k ∉ inM n R d:=by simpa using h2
    unfold inM at h3
    split at h3
    ·rename_i hdd
     refine ⟨fun e=>h3 (by rw [e];exact a0z.2 ⟨hd,.inl rfl⟩),?_⟩
     cases q:R k d with
     | false=>rfl
     | true=>exact absurd (a0z.2 ⟨hk,.inr ⟨hdk,q⟩⟩) h3
    ·rename_i hdd
     refine ⟨by simpa using h3,?_⟩
     cases q:R k d with
     | false=>rfl
     | true=>exact absurd (ht _ _ _ hdk q) hdd
   refine d5i ht c k ?_ hk hkD
   have hsub:((List.range n).filter fun j=>j == k || R k j).length < ((List.range n).filter fun j=>j == d || R d j).length:=by
    have h5:∀ j,(j == k || R k j)=true->(j == d || R d j)=true:=fun j hj=>by
     simp only [Bool.or_eq_true,beq_iff_eq] at hj |-
     rcases hj with rfl | hj
     ·exact .inr hdk
     ·exact .inr (ht _ _ _ hdk hj)
    have h6:((List.range n).filter fun j=>j == k || R k j)=((List.range n).filter fun j=>j == d || R d j).filter fun j=>j == k || R k j:=by
     rw [List.filter_filter]
     refine List.filter_congr fun j _=>?_
     cases q:(j == k || R k j) with
     | false=>simp
     | true=>rw [h5 j q];rfl
    rw [h6]
    refine List.length_filter_lt_length_iff_exists.2 ⟨d,List.mem_filter.2 ⟨List.mem_range.2 hd,by simp⟩,?_⟩
    simp [hkd.2,Ne.symm hkd.1]
   omega
theorem b4m {n:Nat} {R:Nat->Nat->Bool} (ht:∀ i j k,R i j=true->R j k=true->R i k=true) {D:List Nat} (hn:D.Nodup) (hb:∀ d ∈ D,d < n) (hl:D.length < n):∃ d,(List.range n).find? (a3v n R D)=some d:=by
 have hex:∃ d,d < n/\d ∉ D:=by
  refine Classical.byContradiction fun hc=>?_
  have hall:∀ d,d < n->d ∈ D:=fun d hd=>Classical.byContradiction fun q=>hc ⟨d,hd,q⟩
  have h1:(List.range n).length<=D.length:=a2k List.nodup_range fun x hx=>hall x (List.mem_range.1 hx)
  simp at h1;omega
 obtain ⟨d,hd,hD⟩:=hex
 obtain ⟨e,he,hr⟩:=d5i ht _ d (Nat.le_refl _) hd hD
 cases h:(List.range n).find? (a3v n R D) with
 | some d=>exact ⟨d,rfl⟩
 | none =>
  have:=List.find?_eq_none.1 h e (List.mem_range.2 he)
  exact absurd hr this
end Go.Aft
end
