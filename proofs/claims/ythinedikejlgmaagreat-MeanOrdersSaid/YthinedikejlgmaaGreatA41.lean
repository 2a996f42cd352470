import Derived.Test.YthinedikejlgmaaGreatA40
import Derived.Test.YthinedikejlgmaaGreatA22
set_option linter.all false
section
set_option maxRecDepth 20000
namespace Go.Aft
open Go.Proofs.Tryz
theorem c4k {b:List Item} {ks:List Int} (hk:ks.Perm (keysOf b)) (k:Int) :
  ∃ z,(a1c (.int .i64 k) (esI ks (rowE b))).getD (.d (.k (.slice none 0 0)))=z/\Plain z/\(∀ N,z.nb N)/\∀ lo hi,AFun prog 233 [z,lvI lo,lvI hi] (sl ((a1a lo hi (rowOf k b)).map a0i)):=by
 rw [a7k]
 by_cases h:k ∈ ks
 ·rw [if_pos h]
  exact ⟨_,rfl,⟨rfl,trivial,rfl,rfl⟩,fun _=>trivial,fun lo hi=>a8g _ lo hi⟩
 ·rw [if_neg h]
  have h0:rowOf k b=[]:=by
   rw [rowOf,List.filter_eq_nil_iff]
   intro y hy q
   exact h (hk.mem_iff.2 (a7m.2 ⟨y,hy,by simpa using q⟩))
  refine ⟨_,rfl,⟨rfl,trivial,rfl,rfl⟩,fun _=>trivial,fun lo hi=>AFun.fzA ?_⟩
  have:=a8g [] lo hi
  rw [h0]
  simpa [fzs,fz] using this
theorem b4c (lo hi:Int) (l:List Item):(a1a lo hi l).length<=l.length:=((List.takeWhile_sublist _).trans (List.dropWhile_sublist _)).length_le
theorem c4l (k:Int) (b:List Item):(rowOf k b).length<=b.length:=List.length_filter_le _ _
theorem f5e {x y:Item} (hx:ItIn x) (hy:ItIn y):1<=x.n * y.n/\x.n * y.n<=1000000000000:=by
 have h1:=hx.2.2.2
 have h2:=hy.2.2.2
 constructor
 ·exact Int.le_trans (by omega) (Int.mul_le_mul h1.1 h2.1 (by omega) (by omega))
 ·exact Int.le_trans (Int.mul_le_mul h1.2 h2.2 (by omega) (by omega)) (by omega)
theorem c7o (n:Int) (c:Calc) (a b:List Item) (hb:b.length<=300):(b1j n c a b).length<=a.length * 300:=by
 refine a6a (fun x=>?_) a
 rw [List.length_map]
 exact Nat.le_trans (b4c _ _ _) (Nat.le_trans (c4l _ _) hb)
theorem d0c (c:Calc) (a b:List Item):(a9c c a b).length<=a.length:=by
 have h:=a6a (f:=fun x:Item=>match (a1a 0 x.rec_.at_ (rowOf x.rec_.key b)).getLast? with
  | none=>[]
  | some y=>[(⟨⟨x.rec_.at_,x.rec_.key,cVal x.rec_ y.rec_.val c⟩,x.n⟩:Item)]) (B:=1) (fun x=>by split <;> simp) a
 rw [Nat.mul_one] at h
 exact h
theorem d8k (n:Nat) (e:Exp) (c:Calc) (a b:Bag) (ha:a1u a) (hb:a1u b) (hc:e.a0k=[c]) (hv:VOk c) (hn:0<=e.n/\e.n<=50) (H:GH) :
  a0j prog 196 [.gp n 0,lv (rExp e),a9a [a,b]] H fun ce H'=>ce=.ret (bagL (b1j e.n c a b))/\H'=H:=by
 have cc:=a0g (p:=kds [4] [] [])
 refine a0j.a1j (a0g (p:=kds [4] [] [])) func196 rfl call196 (by rw [ntmps196];simp) rfl fun hf hw=>?_
 have hvo:=a3w hv
 simp [a0o] at hvo
 have hal:=ha.2.1
 have hbl:=hb.2.1
 have hro:=b2f b hbl H
 simp [ntmps196,results196,a0c,hc]
 refine AW.draw cc [(4,.n)] (.q 0<|.q 5<|.q 6<|.q 1<|.q 2<|.q 3<|.q 4<|.q 7<|.f<|.one 8<|.q 9<|.q 10<|.done) (by kernel_rfl) ?_
 simp [a0c,hc,a0o,rBag]
 refine FC.afun hvo ?_
 simp [a0c,hc,a0o,vFn,rBag]
 refine ECn.of hro (fun v H2 hR _=>?_) (fun x H2 env hR _=>by obtain ⟨m,ks,q,_⟩:=hR;cases q)
 obtain ⟨m,ks,q,m1,m2,m3,hks,o2⟩:=hR
 cases q
 have honl:∀ k,a3c k (a5n c).2:=fun k=>a1r (keep:=k) _ (a2h hv 0)
 simp
 refine AW.a0w cc (fun s:Nat × LV × GH=>⟨[(4,ipE e),(7,vFn c),(8,.gm m),(9,s.2.1),(26,sl (a.map a0i)),(27,lvI a.length),(28,lvI s.1)],[],s.2.2⟩) (fun s=>a.length - s.1)
  (fun s=>s.1<=a.length/\AppX 86 4 H2 s.2.1 ((b1j e.n c (a.take s.1) b).map a0i) s.2.2) (0,.d (.k (.slice none 0 0)),H2) ⟨⟨Nat.zero_le _,by simpa [b1j] using AppX.nil⟩,by simp [vFn,honl,ipE,a0c,hc,a0o]⟩ ?_
 rintro ⟨i,y,H3⟩ ⟨hi,happ⟩
 simp only at hi happ
 simp
 refine ⟨fun h=>?_,fun h=>?_⟩
 ·obtain ⟨x,hxe⟩:∃ x,a[i]=x:=⟨_,rfl⟩
  have htk:a.take (i+1)=a.take i ++ [x]:=by rw [<- a0p h,hxe]
  have hxi:=ha.2.2 x (hxe ▸ List.getElem_mem h)
  have hw':=wrap_succ (n:=9223372036854775807) (show i < 9223372036854775807 by omega)
  have hkey:=eq_true (a4y ks (rowE b))
  obtain ⟨z,hz,hzp,hzn,hzw⟩:=c4k hks x.rec_.key
  have om:H3.obj m=some (.map (esI ks (rowE b))):=by rw [happ.ob m m2];exact m3
  have hx1:=hxi.1
  have w1:IntKind.wrap .i64 (x.rec_.at_ - e.n)=x.rec_.at_ - e.n:=by rw [wrap64] <;> omega
  have w2:IntKind.wrap .i64 (x.rec_.at_+e.n)=x.rec_.at_+e.n:=by rw [wrap64] <;> omega
  have hzw:=hzw (x.rec_.at_ - e.n) (x.rec_.at_+e.n)
  obtain ⟨row,hrow⟩:∃ row,a1a (x.rec_.at_ - e.n) (x.rec_.at_+e.n) (rowOf x.rec_.key b)=row:=⟨_,rfl⟩
  rw [hrow] at hzw
  have hrl:row.length<=300:=by rw [<- hrow];exact Nat.le_trans (b4c _ _ _) (Nat.le_trans (c4l _ _) hbl)
  have hpl:(b1j e.n c (a.take i) b).length<=90000:=Nat.le_trans (c7o _ _ _ _ hbl) (by simp;omega)
  have hpm:b1j e.n c (a.take (i+1)) b=b1j e.n c (a.take i) b ++ row.map (a6t c x):=by rw [htk,b1j,List.flatMap_append,List.flatMap_cons,List.flatMap_nil,List.append_nil,hrow];rfl
  simp at hzw
  simp [h,List.getElem?_eq_getElem h,hxe,a0i,om,hkey,hz,hzp.all,ipE,a0c,w1,w2]
  refine ⟨hzn _,EC.afun hzw ?_⟩
  simp
  refine AW.a0w cc (fun s:Nat × LV × GH=>⟨[(4,ipE e),(7,vFn c),(8,.gm m),(9,s.2.1),(11,.lp 11 0),(26,sl (a.map a0i)),(27,lvI a.length),(28,lvI i),(49,sl (row.map a0i)),(50,lvI row.length),(51,lvI s.1)],[(11,(a0i x).map .d)],s.2.2⟩) (fun s=>row.length - s.1)
   (fun s=>s.1<=row.length/\AppX 86 4 H2 s.2.1 ((b1j e.n c (a.take i) b ++ (row.take s.1).map (a6t c x)).map a0i) s.2.2) (0,y,H3) ⟨⟨Nat.zero_le _,by simpa using happ⟩,by simp [vFn,honl,ipE,a0c,hc,a0o,a0i,happ.only]⟩ ?_
  rintro ⟨j,y2,H4⟩ ⟨hj,hap2⟩
  simp only at hj hap2
  simp
  refine ⟨fun h2=>?_,fun h2=>?_⟩
  ·obtain ⟨u,hue⟩:∃ u,row[j]=u:=⟨_,rfl⟩
   have htk2:row.take (j+1)=row.take j ++ [u]:=by rw [<- a0p h2,hue]
   have hum:u ∈ row:=hue ▸ List.getElem_mem h2
   have hub:u ∈ b:=by rw [<- hrow] at hum;exact (row_mem (a5i hum)).1
   have hui:=hb.2.2 u hub
   have hmn:=f5e hxi hui
   have w3:IntKind.wrap .i64 (x.n * u.n)=x.n * u.n:=by rw [wrap64] <;> omega
   have hr':d9j ⟨maxI x.rec_.at_ u.rec_.at_,x.rec_.key,x.rec_.val⟩:=⟨by have:=hui.1;unfold a1z maxI;split <;> simp only <;> omega,hxi.2.1,hxi.2.2.1⟩
   have hcv:=a7d hr' (o:=u.rec_.val) hui.2.2.1 hv
   have hw2:=wrap_succ (n:=9223372036854775807) (show j < 9223372036854775807 by omega)
   simp [rRec] at hcv
   simp [h2,List.getElem?_eq_getElem h2,hue,a0i,vFn]
   refine ⟨a2h hv _,EC.afun hcv ?_⟩
   simp [hap2.plain.all,w3]
   have hp2:(b1j e.n c (a.take i) b).length+(row.take j).length<=90300:=by simp;omega
   refine APK.appX (ys:=[a0i (a6t c x u)]) tyE29 rfl tyE86 (by simp) (x:=y2) (by simp) hap2 (by simp [a0i,rowsOf,a6t]) (by simp) (a1b _) (fun r hr=>by simp only [List.mem_singleton] at hr;subst hr;rfl) (by simp at hp2 |-;omega) (by simp) fun x' H5 happ' _ _=>?_
   simp [happ'.plain.all,happ'.only,hw2]
   refine NX.go (j+1,x',H5) (by simp only;omega) ⟨h2,?_⟩ (by simp [happ'.only,vFn,honl,ipE,a0c,hc,a0o,a0i])
   rw [htk2,List.map_append (f:=a6t c x),<- List.append_assoc,List.map_append];exact happ'
  ·have e2:j=row.length:=by omega
   subst e2
   rw [List.take_length,<- hpm] at hap2
   exact NX.go (i+1,y2,H4) (by simp only;omega) ⟨h,hap2⟩ (by simp [hap2.only,vFn,honl,ipE,a0c,hc,a0o,a0i,hw'])
 ·have:i=a.length:=by omega
  subst this
  rw [List.take_length] at happ
  simp [happ.plain.all,happ.fz,bagL]
  have hn2:H.next<=H2.next:=by omega
  exact fun hz=>a0m (Nat.le_trans hn2 happ.nx) (fun k hk=>by rw [happ.ob k (by omega)];exact o2 k hk) hw.none
theorem d8p (n:Nat) (e:Exp) (c:Calc) (a b:Bag) (ha:a1u a) (hb:a1u b) (hc:e.a0k=[c]) (hv:VOk c) (H:GH) :
  a0j prog 197 [.gp n 0,lv (rExp e),a9a [a,b]] H fun ce H'=>ce=.ret (bagL (a9c c a b))/\H'=H:=by
 have cc:=a0g (p:=kds [4] [] [])
 refine a0j.a1j (a0g (p:=kds [4] [] [])) func197 rfl call197 (by rw [ntmps197];simp) rfl fun hf hw=>?_
 have hvo:=a3w hv
 simp [a0o] at hvo
 have hal:=ha.2.1
 have hbl:=hb.2.1
 have hro:=b2f b hbl H
 simp [ntmps197,results197,a0c,hc]
 refine AW.draw cc [(4,.n)] (.q 0<|.q 5<|.q 6<|.q 1<|.q 2<|.q 3<|.q 4<|.q 7<|.f<|.one 8<|.q 9<|.q 10<|.done) (by kernel_rfl) ?_
 simp [a0c,hc,a0o,rBag]
 refine FC.afun hvo ?_
 simp [a0c,hc,a0o,vFn,rBag]
 refine ECn.of hro (fun v H2 hR _=>?_) (fun x H2 env hR _=>by obtain ⟨m,ks,q,_⟩:=hR;cases q)
 obtain ⟨m,ks,q,m1,m2,m3,hks,o2⟩:=hR
 cases q
 have honl:∀ k,a3c k (a5n c).2:=fun k=>a1r (keep:=k) _ (a2h hv 0)
 simp
 refine AW.a0w cc (fun s:Nat × LV × GH=>⟨[(7,vFn c),(8,.gm m),(9,s.2.1),(25,sl (a.map a0i)),(26,lvI a.length),(27,lvI s.1)],[],s.2.2⟩) (fun s=>a.length - s.1)
  (fun s=>s.1<=a.length/\AppX 86 4 H2 s.2.1 ((a9c c (a.take s.1) b).map a0i) s.2.2) (0,.d (.k (.slice none 0 0)),H2) ⟨⟨Nat.zero_le _,by simpa [a9c] using AppX.nil⟩,by simp [vFn,honl,hc,a0o]⟩ ?_
 rintro ⟨i,y,H3⟩ ⟨hi,happ⟩
 simp only at hi happ
 simp
 refine ⟨fun h=>?_,fun h=>?_⟩
 ·obtain ⟨x,hxe⟩:∃ x,a[i]=x:=⟨_,rfl⟩
  have htk:a.take (i+1)=a.take i ++ [x]:=by rw [<- a0p h,hxe]
  have hxi:=ha.2.2 x (hxe ▸ List.getElem_mem h)
  have hw':=wrap_succ (n:=9223372036854775807) (show i < 9223372036854775807 by omega)
  have hkey:=eq_true (a4y ks (rowE b))
  obtain ⟨z,hz,hzp,hzn,hzw⟩:=c4k hks x.rec_.key
  have om:H3.obj m=some (.map (esI ks (rowE b))):=by rw [happ.ob m m2];exact m3
  have hzw:=hzw 0 x.rec_.at_
  obtain ⟨row,hrow⟩:∃ row,a1a 0 x.rec_.at_ (rowOf x.rec_.key b)=row:=⟨_,rfl⟩
  rw [hrow] at hzw
  have hrl:row.length<=300:=by rw [<- hrow];exact Nat.le_trans (b4c _ _ _) (Nat.le_trans (c4l _ _) hbl)
  have hpl:(a9c c (a.take i) b).length<=300:=Nat.le_trans (d0c _ _ _) (by simp;omega)
  simp at hzw
  simp [h,List.getElem?_eq_getElem h,hxe,a0i,om,hkey,hz,hzp.all]
  refine ⟨hzn _,EC.afun hzw ?_⟩
  simp
  refine ⟨fun q=>?_,fun q=>?_⟩
  ·have hr1:row.length - 1 < row.length:=by omega
   obtain ⟨u,hue⟩:∃ u,row[row.length - 1]=u:=⟨_,rfl⟩
   have hlast:row.getLast?=some u:=by rw [List.getLast?_eq_getElem?,List.getElem?_eq_getElem hr1,hue]
   have hum:u ∈ row:=hue ▸ List.getElem_mem hr1
   have hui:=hb.2.2 u (by rw [<- hrow] at hum;exact (row_mem (a5i hum)).1)
   have hpm:a9c c (a.take (i+1)) b=a9c c (a.take i) b ++ [⟨⟨x.rec_.at_,x.rec_.key,cVal x.rec_ u.rec_.val c⟩,x.n⟩]:=by rw [htk,a9c,List.flatMap_append,List.flatMap_cons,List.flatMap_nil,List.append_nil,hrow,hlast];rfl
   have hcv:=a7d (b9j hxi) (o:=u.rec_.val) hui.2.2.1 hv
   have w1:IntKind.wrap .i64 ((row.length:Int) - 1)=(row.length:Int) - 1:=by rw [wrap64] <;> omega
   have t1:((row.length:Int) - 1).toNat=row.length - 1:=by omega
   simp [rRec] at hcv
   refine AW.draw cc [(11,.n)] (.q 0<|.q 1<|.q 3<|.q 4<|.q 2<|.q 5<|.q 6<|.q 7<|.q 8<|.q 9<|.q 10<|.q 11<|.q 12<|.f<|.one 13<|.done) (by kernel_rfl) ?_
   simp [vFn,w1,t1,List.getElem?_eq_getElem hr1,hue,a0i]
   refine ⟨⟨by omega,by omega⟩,a2h hv _,FC.afun hcv ?_⟩
   simp [happ.plain.all]
   refine APK.appX (ys:=[a0i ⟨⟨x.rec_.at_,x.rec_.key,cVal x.rec_ u.rec_.val c⟩,x.n⟩]) tyE29 rfl tyE86 (by simp) (x:=y) (by simp) happ (by simp [a0i,rowsOf]) (by simp) (a1b _) (fun r hr=>by simp only [List.mem_singleton] at hr;subst hr;rfl) (by simp;omega) (by simp) fun x' H5 happ' _ _=>?_
   simp [happ'.plain.all,happ'.only,hw']
   refine NX.go (i+1,x',H5) (by simp only;omega) ⟨h,?_⟩ (by simp [happ'.only,vFn,honl,a0i])
   rw [hpm,List.map_append];exact happ'
  ·have hr0:row=[]:=by
    cases row with
    | nil=>rfl
    | cons a l=>simp at q;try omega
   have hpm:a9c c (a.take (i+1)) b=a9c c (a.take i) b:=by rw [htk,a9c,List.flatMap_append,List.flatMap_cons,List.flatMap_nil,List.append_nil,hrow,hr0];simp [a9c]
   exact NX.go (i+1,y,H3) (by simp only;omega) ⟨h,by rw [hpm];exact happ⟩ (by simp [happ.only,vFn,honl,hw'])
 ·have:i=a.length:=by omega
  subst this
  rw [List.take_length] at happ
  simp [happ.plain.all,happ.fz,bagL]
  have hn2:H.next<=H2.next:=by omega
  exact fun hz=>a0m (Nat.le_trans hn2 happ.nx) (fun k hk=>by rw [happ.ob k (by omega)];exact o2 k hk) hw.none
theorem d8m (n:Nat) (e:Exp) (a b:Bag) (ha:a1u a) (hb:a1u b) (hn:0<=e.n/\e.n<=50) (H:GH) :
  a0j prog 198 [.gp n 0,lv (rExp e),a9a [a,b]] H fun ce H'=>ce=.ret (bagL (c1l e.n a b))/\H'=H:=by
 have cc:=a0g (p:=kds [4] [] [])
 refine a0j.a1j (a0g (p:=kds [4] [] [])) func198 rfl call198 (by rw [ntmps198];simp) rfl fun hf hw=>?_
 have hal:=ha.2.1
 have hbl:=hb.2.1
 have hro:=b2f b hbl H
 simp [ntmps198,results198,a0c,rBag]
 refine EC.of hro (fun v H2 hR=>?_) (fun x H2 hR=>by obtain ⟨m,ks,q,_⟩:=hR;cases q)
 obtain ⟨m,ks,q,m1,m2,m3,hks,o2⟩:=hR
 cases q
 simp
 refine AW.a0w cc (fun s:Nat × LV × GH=>⟨[(4,ipE e),(7,.gm m),(8,s.2.1),(17,sl (a.map a0i)),(18,lvI a.length),(19,lvI s.1)],[],s.2.2⟩) (fun s=>a.length - s.1)
  (fun s=>s.1<=a.length/\AppX 86 4 H2 s.2.1 ((c1l e.n (a.take s.1) b).map a0i) s.2.2) (0,.d (.k (.slice none 0 0)),H2) ⟨⟨Nat.zero_le _,by simpa [c1l] using AppX.nil⟩,by simp [ipE,a0c]⟩ ?_
 rintro ⟨i,y,H3⟩ ⟨hi,happ⟩
 simp only at hi happ
 simp
 refine ⟨fun h=>?_,fun h=>?_⟩
 ·obtain ⟨x,hxe⟩:∃ x,a[i]=x:=⟨_,rfl⟩
  have htk:a.take (i+1)=a.take i ++ [x]:=by rw [<- a0p h,hxe]
  have hxi:=ha.2.2 x (hxe ▸ List.getElem_mem h)
  have hx1:=hxi.1
  have hw':=wrap_succ (n:=9223372036854775807) (show i < 9223372036854775807 by omega)
  have hkey:=eq_true (a4y ks (rowE b))
  obtain ⟨z,hz,hzp,hzn,hzw⟩:=c4k hks x.rec_.key
  have om:H3.obj m=some (.map (esI ks (rowE b))):=by rw [happ.ob m m2];exact m3
  have w1:IntKind.wrap .i64 (x.rec_.at_ - e.n)=x.rec_.at_ - e.n:=by rw [wrap64] <;> omega
  have w2:IntKind.wrap .i64 (x.rec_.at_+e.n)=x.rec_.at_+e.n:=by rw [wrap64] <;> omega
  have hzw:=hzw (x.rec_.at_ - e.n) (x.rec_.at_+e.n)
  obtain ⟨row,hrow⟩:∃ row,a1a (x.rec_.at_ - e.n) (x.rec_.at_+e.n) (rowOf x.rec_.key b)=row:=⟨_,rfl⟩
  rw [hrow] at hzw
  have hpl:(c1l e.n (a.take i) b).length<=300:=Nat.le_trans (List.length_filter_le _ _) (by simp;omega)
  have hpm:c1l e.n (a.take (i+1)) b=c1l e.n (a.take i) b ++ (if row.isEmpty=true then [x] else []):=by
   rw [htk];unfold c1l;rw [List.filter_append,List.filter_cons,hrow]
   by_cases q:row.isEmpty=true <;> simp [q]
  simp at hzw
  simp [h,List.getElem?_eq_getElem h,hxe,a0i,om,hkey,hz,hzp.all,ipE,a0c,w1,w2]
  refine ⟨hzn _,EC.afun hzw ?_⟩
  simp
  refine ⟨fun q=>⟨happ.plain.unP,?_⟩,fun q=>?_⟩
  ·refine APK.appX (ys:=[a0i x]) tyE29 rfl tyE86 (by simp) (x:=y) (by simp [happ.plain.all]) happ (by simp [a0i,rowsOf]) (by simp) (a1b _) (fun r hr=>by simp only [List.mem_singleton] at hr;subst hr;rfl) (by simp;omega) (by simp) fun x' H5 happ' _ _=>?_
   simp [happ'.plain.all,happ'.only,hw']
   refine NX.go (i+1,x',H5) (by simp only;omega) ⟨h,?_⟩ (by simp [happ'.only,a0i,ipE,a0c])
   rw [hpm,if_pos (by simp [q]),List.map_append];exact happ'
  ·rw [if_neg (by simpa using q),List.append_nil] at hpm
   exact NX.go (i+1,y,H3) (by simp only;omega) ⟨h,by rw [hpm];exact happ⟩ (by simp [happ.only,hw',ipE,a0c])
 ·have:i=a.length:=by omega
  subst this
  rw [List.take_length] at happ
  simp [happ.plain.all,happ.fz,bagL]
  have hn2:H.next<=H2.next:=by omega
  exact fun hz=>a0m (Nat.le_trans hn2 happ.nx) (fun k hk=>by rw [happ.ob k (by omega)];exact o2 k hk) hw.none
end Go.Aft
end
section
set_option maxRecDepth 20000
namespace Go.Aft
open Go.Proofs.Tryz
theorem d1e (n:Nat) (hn:0 < n/\n<=1000) (H:GH):a0j prog 265 [.d (.k (.slice none 0 0)),lvI n] H fun ce H'=>ce=.ret (.vs H.next 0 4 0 0)/\H'=H.add (.vec 86 0 4 (repL n [lvI 0,lvI 0,lvI 0,lvI 0]) false):=by
 have cc:=a0g (p:=kds [] [] [22])
 refine a0j.e5z (a0g (p:=kds [] [] [22])) func265 rfl call265 (by rw [ntmps265];simp) rfl fun hf hw=>?_
 have w0:IntKind.wrap .i64 (n:Int)=n:=by rw [wrap64] <;> omega
 have hn1:¬ (n:Int) < 0:=by omega
 have wz:IntKind.wrap .i64 0=0:=rfl
 have hn2:¬ (n:Int)<=0:=by omega
 simp [ntmps265,results265]
 refine AW.ev cc ?_
 simp [w0,hn1,hn.1,wz,hn2]
 refine APK.ev ?_
 simp [hn2,hn.1]
 exact ⟨by omega,fun hz=>⟨hz.drop (by rw [GH.a0a];omega),by rw [GH.a0a];omega⟩⟩
theorem c7c (H:GH):a0j prog 265 [.d (.k (.slice none 0 0)),lvI 0] H fun ce H'=>ce=.ret (.d (.k (.slice none 0 0)))/\H'=H:=by
 have cc:=a0g (p:=kds [] [] [22])
 refine a0j.e5z (a0g (p:=kds [] [] [22])) func265 rfl call265 (by rw [ntmps265];simp) rfl fun hf hw=>?_
 have wz:IntKind.wrap .i64 0=0:=rfl
 simp [ntmps265,results265,wz]
 refine AW.ev cc ?_
 simp [wz]
 exact fun hz=>hz.drop (Nat.le_refl _)
def zer4 (k:Nat):List LV:=repL k [lvI 0,lvI 0,lvI 0,lvI 0]
theorem e7i (k:Nat):(zer4 k).length=k * 4:=by
 unfold zer4 repL
 induction k with
 | zero=>rfl
 | succ k ih=>rw [List.replicate_succ,List.flatten_cons,List.length_append,ih,Nat.succ_mul];simp;omega
theorem c6m:∀ (k j:Nat),(zer4 k).drop (j * 4)=zer4 (k - j)
 | k,0=>by simp
 | 0,j+1=>by simp [zer4,repL]
 | k+1,j+1=>by
  have h:zer4 (k+1)=[lvI 0,lvI 0,lvI 0,lvI 0] ++ zer4 k:=by simp [zer4,repL,List.replicate_succ]
  rw [h,show (j+1) * 4=4+j * 4 by omega,<- List.drop_drop,List.drop_left' (by rfl),c6m k j,show k+1 - (j+1)=k - j by omega]
theorem f2p (A X:List LV) (k j:Nat) (hX:X.length=j * 4):putAt (A ++ zer4 k) A.length X=A ++ X ++ zer4 (k - j):=by
 unfold putAt
 rw [List.take_left,<- List.drop_drop,List.drop_left,hX,c6m]
theorem c4i (a b:Bag) (ha:a.length<=300) (hb:b.length<=300):AFun prog 225 [a9a [a,b]] (bagL (a ++ b)):=by
 intro H
 have cc:=a0g (p:=kds [] [] [33])
 refine a0j.a3a (a0g (p:=kds [] [] [33])) func225 rfl call225 (by rw [ntmps225];simp) rfl fun hf hw=>?_
 simp [ntmps225,results225] at hf |-
 refine AW.seq cc ?_
 simp
 refine AW.seq cc ?_
 simp
 refine AW.seq cc ?_
 simp
 obtain ⟨ks,hks⟩:∃ ks,[a,b]=ks:=⟨_,rfl⟩
 have hk2:ks.length=2:=by rw [<- hks];rfl
 have hrk:[rBag a,rBag b]=ks.map rBag:=by rw [<- hks];rfl
 have hkl:∀ x ∈ ks,x.length<=300:=fun x hx=>by rw [<- hks] at hx;simp at hx;rcases hx with rfl | rfl <;> omega
 have hfl:ks.flatten=a ++ b:=by rw [<- hks];simp
 obtain ⟨sm,hsm⟩:∃ sm:Nat->Nat,sm=fun i=>(ks.take i).flatten.length:=⟨_,rfl⟩
 have hsum:∀ i,i<=2->sm i<=600:=fun i hi=>by
  rw [hsm,<- hks]
  have:i=0 \/ i=1 \/ i=2:=by omega
  rcases this with rfl | rfl | rfl <;> simp <;> omega
 have hsn:∀ i,(h:i < ks.length)->sm (i+1)=sm i+ks[i].length:=fun i h=>by
  rw [hsm];simp only;rw [<- a0p h,List.flatten_append,List.length_append];simp
 have hs0:sm 0=0:=by rw [hsm];simp
 have hs2:sm 2=a.length+b.length:=by rw [hsm];simp only;rw [<- hk2,List.take_length,hfl,List.length_append]
 rw [hrk]
 refine AW.a0w cc (fun i:Nat=>⟨[(0,sl (ks.map rBag)),(3,lvI (sm i:Nat)),(9,sl (ks.map rBag)),(10,lvI 2),(11,lvI i)],[],H⟩) (fun i=>2 - i) (fun i=>i<=2) 0 ⟨by omega,by simp [hs0]⟩ ?_
 intro i hi
 have hsi:=hsum i hi
 simp
 refine ⟨fun h=>?_,fun h=>?_⟩
 ·have h':i < ks.length:=by omega
  obtain ⟨x,hxe⟩:∃ x,ks[i]=x:=⟨_,rfl⟩
  have htk:ks.take (i+1)=ks.take i ++ [x]:=by rw [<- a0p h',hxe]
  have hxl:=hkl x (hxe ▸ List.getElem_mem h')
  have hsi2:=hsn i h'
  rw [hxe] at hsi2
  have w1:IntKind.wrap .i64 ((sm i:Int)+(x.length:Int))=(sm (i+1):Nat):=by rw [hsi2,wrap64] <;> omega
  have hw2:=wrap_succ (n:=9223372036854775807) (show i < 9223372036854775807 by omega)
  have hp:¬ ((sm (i+1):Nat):Int) < 0:=by omega
  simp [h',List.getElem?_eq_getElem h',hxe,rBag,w1,hp]
  exact NX.go (i+1) (by omega) (by omega) (by simp [hw2])
 ·have e2:i=2:=by omega
  subst e2
  rw [hs2]
  obtain ⟨n,hn⟩:∃ n,a.length+b.length=n:=⟨_,rfl⟩
  have hn6:n<=600:=by omega
  rw [hn]
  by_cases h0:n=0
  ·have ha0:a=[]:=List.eq_nil_of_length_eq_zero (by omega)
   have hb0:b=[]:=List.eq_nil_of_length_eq_zero (by omega)
   subst ha0 hb0
   subst h0
   refine AW.seq cc ?_
   simp
   refine EC.of (c7c H) (fun v H2 hR=>?_) (fun v H2 hR=>by cases hR.1)
   obtain ⟨q,rfl⟩:=hR
   cases q
   simp
   refine AW.seq cc ?_
   simp
   refine AW.a0w cc (fun i:Nat=>⟨[(6,.d (.k (.slice none 0 0))),(25,sl (ks.map rBag)),(26,lvI 2),(27,lvI i)],[],H2⟩) (fun i=>2 - i) (fun i=>i<=2) 0 ⟨by omega,by simp [hk2]⟩ ?_
   intro i hi
   simp
   refine ⟨fun h=>?_,fun h=>?_⟩
   ·have h':i < ks.length:=by omega
    have hx0:ks[i]=[]:=by
     have hm:=List.getElem_mem h'
     have hall:∀ y ∈ ks,y=[]:=fun y hy=>by rw [<- hks] at hy;simpa using hy
     exact hall _ hm
    have hw2:=wrap_succ (n:=9223372036854775807) (show i < 9223372036854775807 by omega)
    simp [h',List.getElem?_eq_getElem h',hx0,rBag]
    refine APK.ev ?_
    simp
    exact NX.go (i+1) (by omega) (by omega) (by simp [hw2])
   ·refine AW.ev cc ?_
    simp [bagL]
    exact fun hz=>hz.drop (Nat.le_refl _)
  ·refine AW.seq cc ?_
   simp
   refine EC.of (d1e n (by omega) H) (fun v H2 hR=>?_) (fun v H2 hR=>by cases hR.1)
   obtain ⟨q,hE⟩:=hR
   cases q
   rw [hE]
   clear hE
   simp
   refine AW.seq cc ?_
   simp
   obtain ⟨cel,hcel⟩:∃ cel:Nat->List LV,cel=fun i=>a1e ((ks.take i).flatten.map a0i) ++ zer4 (n - sm i):=⟨_,rfl⟩
   have hc0:cel 0=zer4 n:=by rw [hcel];simp [hs0,a1e]
   refine AW.a0w cc (fun i:Nat=>⟨[(6,.vs H.next 0 4 0 (sm i)),(25,sl (ks.map rBag)),(26,lvI 2),(27,lvI i)],[],H.add (.vec 86 0 4 (cel i) false)⟩) (fun i=>2 - i) (fun i=>i<=2) 0 ⟨by omega,by simp [hk2,hs0,hc0,zer4]⟩ ?_
   intro i hi
   simp
   refine ⟨fun h=>?_,fun h=>?_⟩
   ·have h':i < ks.length:=by omega
    obtain ⟨x,hxe⟩:∃ x,ks[i]=x:=⟨_,rfl⟩
    have hsi2:=hsn i h'
    rw [hxe] at hsi2
    have hw2:=wrap_succ (n:=9223372036854775807) (show i < 9223372036854775807 by omega)
    have ob:∀ X,(H.add X).obj H.next=some X:=fun X=>by rw [GH.a0b,if_pos rfl]
    have hset:∀ X Y,(H.add X).set H.next Y=H.add Y:=fun X Y=>GH.a1v
    simp [h',List.getElem?_eq_getElem h',hxe,rBag]
    refine APK.ev ?_
    have hxl:=hkl x (hxe ▸ List.getElem_mem h')
    have htk:ks.take (i+1)=ks.take i ++ [x]:=by rw [<- a0p h',hxe]
    have hse:sm (i+1)<=n:=by
     have:i=0 \/ i=1:=by omega
     have h12:sm 2=sm 1+ks[1].length:=hsn 1 (by omega)
     rcases this with rfl | rfl
     ·show sm 1<=n;omega
     ·show sm 2<=n;omega
    have hA:(a1e ((ks.take i).flatten.map a0i)).length=sm i * 4:=by
     rw [b0d (fun x=>rItem_len x),hsm]
    have hX:(a1e (x.map a0i)).length=x.length * 4:=b0d (fun x=>rItem_len x) x
    have hcl:(cel i).length=n * 4:=by
     rw [hcel];simp only;rw [List.length_append,hA,e7i];omega
    have hput:(cel i).take (sm i * 4) ++ (a1e (x.map a0i) ++ (cel i).drop (sm i * 4+x.length * 4))=cel (i+1):=by
     have:=f2p (a1e ((ks.take i).flatten.map a0i)) (a1e (x.map a0i)) (n - sm i) x.length hX
     rw [hcel];simp only
     unfold putAt at this
     rw [hA,hX,List.append_assoc] at this
     rw [this,htk,List.flatten_append,List.map_append,b6a,hsi2]
     simp only [List.flatten_cons,List.flatten_nil,List.append_nil]
     rw [show n - sm i - x.length=n - (sm i+x.length) by omega]
    by_cases hx0:x=[]
    ·have hce:cel (i+1)=cel i:=by
      rw [hx0] at hput
      simp [a1e] at hput
      exact hput.symm
     have hsme:sm (i+1)=sm i:=by rw [hsi2,hx0];rfl
     simp [ob,hx0]
     exact NX.go (i+1) (by omega) (by omega) (by simp [hw2,hce,hsme])
    ·have hle:(sm i+x.length) * 4<=n * 4:=by omega
     have hnbs:∀ N,nbs N (a1e (x.map a0i)):=fun N=>b0e N _
     simp [ob,hx0,hcl,hle,hX,hput,hnbs,hset]
     exact NX.go (i+1) (by omega) (by omega) (by simp [hw2,hsi2])
   ·have e2:i=2:=by omega
    subst e2
    have hfin:cel 2=a1e ((a ++ b).map a0i):=by
     rw [hcel];simp only;rw [hs2,hn,Nat.sub_self,<- hk2,List.take_length,hfl];simp [zer4,repL]
    rw [hfin]
    refine AW.thaw (n:=H.next) (g:=0) (sz:=4) (e:=86) (ex:=false) ((a ++ b).map a0i) (by simp [GH.a0b]) rfl (a1b _) ?_
    refine AW.ev cc ?_
    have htf:((a.map a0i) ++ (b.map a0i)).take (a.length+b.length)=(a.map a0i) ++ (b.map a0i):=List.take_of_length_le (by simp)
    have o3:∀ X m,m < H.next->(H.add X).obj m=H.obj m:=fun X m hm=>by rw [GH.a0b,if_neg (by omega)]
    simp [hs2,htf,bagL]
    exact fun hz=>a0m (by simp only [GH.a0a];omega) (fun m hm=>a9e hw (Nat.le_refl _) (o3 _) hm) hw.none
theorem d8o (n:Nat) (e:Exp) (a b:Bag) (ha:a1u a) (hb:a1u b):AFun prog 188 [.gp n 0,lv (rExp e),a9a [a,b]] (bagL (a ++ b)):=by
 have cc:=a0g (p:=kds [4] [] [])
 have hco:=c4i a b ha.2.1 hb.2.1
 simp [rBag] at hco
 refine AFun.body (a0g (p:=kds [4] [] [])) func188 rfl call188 (by rw [ntmps188];simp) rfl fun hf H=>?_
 simp [ntmps188,results188,a0c]
 refine AW.draw cc [(7,.n)] (.q 0<|.q 1<|.q 3<|.q 4<|.q 2<|.q 5<|.q 6<|.q 7<|.q 8<|.done) (by kernel_rfl) ?_
 have hr:List.range' 0 2=[0,1]:=rfl
 simp [a0c,rBag,hr]
 refine FC.afun hco ?_
 simp [bagL]
end Go.Aft
end
section
set_option maxRecDepth 20000
namespace Go.Aft
open Go.Proofs.Tryz
theorem c6a (l:List Item) (q:Item->Bool) (f:FuncId) (hc:∀ n ∈ l,AFun prog f [lv (a0i n)] (.d (.k (.bool (q n))))):AFun prog 175 [sl (l.map a0i),.fn (.func f) [] []] (lvI (idxF q l)):=by
 have cc:=cx0_ok
 refine AFun.body cx0_ok func175 rfl call175 (by rw [ntmps175];simp) rfl fun hf H=>?_
 simp [ntmps175,results175] at hf |-
 refine AW.a0w cc (fun i:Nat=>⟨[(0,.d (.sl (l.map a0i))),(1,.fn (.func f) [] []),(7,lvI l.length),(8,lvI i)],[],H⟩) (fun i=>l.length - i) (fun i=>i<=l.length/\∀ j (h:j < l.length),j < i->q l[j]=false) 0 ⟨by simp,by simp [LV.only,a3c]⟩ ?_
 rintro i ⟨hi,hk⟩
 simp
 refine ⟨fun h=>?_,fun h=>?_⟩
 ·have hcall:=hc l[i] (List.getElem_mem h)
  simp [a0i] at hcall
  simp [h,List.getElem?_eq_getElem h,a0i]
  refine EC.afun hcall ?_
  simp [wrap_succ h hf.1]
  refine ⟨fun e=>(c5l h e hk).symm,fun e=>NX.go (i+1) (Nat.sub_lt_sub_left h (Nat.lt_succ_self i)) ⟨h,fun j hj hji=>?_⟩ (by simp)⟩
  by_cases z:j=i
  ·subst z;exact e
  ·exact hk j hj (by omega)
 ·exact (b3j fun j hj=>hk j hj (by omega)).symm
theorem a8x (l:List Item) (q:Item->Bool) (f:FuncId) (hc:∀ n ∈ l,AFun prog f [lv (a0i n)] (.d (.k (.bool (q n))))):AFun prog 113 [sl (l.map a0i),.fn (.func f) [] []] (.d (.k (.bool (l.any q)))):=by
 refine AFun.body cx0_ok func113 rfl call113 (by rw [ntmps113];simp) rfl fun hf H=>?_
 have hi:=c6a l q f hc
 simp at hi
 simp [ntmps113,results113]
 refine EC.afun hi ?_
 simp
 rw [<- b6w q l]
theorem e9h (x:Item):AFun prog 143 [lv (a0i x)] (.d (.k (.bool (decide (1000000 < x.n))))):=by
 refine AFun.body (a0g (p:=kds [1] [] [])) func143 rfl call143 (by rw [ntmps143];simp) rfl fun hf H=>?_
 simp [ntmps143,results143,a0i]
def tooMuch:LV:=.d (.k (.iface 191 (.agg #[])))
structure NodeOk (p:Prog) (e:Exp):Prop where
 ok:a6x e.op e.name e.n e.fold e.a0k.length e.kids.length=true
 nm:e.op=1->0<=idx p.srcs e.name
 df:e.op=2 \/ e.op=3->0<=idx (a0d p) e.name
 cs:∀ c ∈ e.a0k,VOk c
theorem c9x {l:List Calc} (h:l.length=1):∃ c,l=[c]:=by
 match l,h with
 | [c],_=>exact ⟨c,rfl⟩
theorem f1y {l:List Calc} (h:l.length=2):∃ c d,l=[c,d]:=by
 match l,h with
 | [c,d],_=>exact ⟨c,d,rfl⟩
theorem b1k {l:List Bag} (h:l.length=1):∃ c,l=[c]:=by
 match l,h with
 | [c],_=>exact ⟨c,rfl⟩
theorem d0b {l:List Bag} (h:l.length=2):∃ c d,l=[c,d]:=by
 match l,h with
 | [c,d],_=>exact ⟨c,d,rfl⟩
theorem a5b {f:FuncId} {args:List LV} {l:List Item} {H:GH} (h:a0j prog f args H fun ce H'=>ce=.ret (bagL l)/\H'=H):a0j prog f args H (d4k l H) :=
 h.mono fun ce H' q=>⟨⟨l,.refl _,q.1⟩,q.2⟩
theorem b8g {f:FuncId} {args:List LV} {l:List Item} {H:GH} (h:AFun prog f args (bagL l)):a0j prog f args H (d4k l H):=a5b (h H)
theorem c7d {op:Int} {name:Str} {n fold:Int} {nc nk:Nat} (h:a6x op name n fold nc nk=true):∃ x,a1l op=some x/\(nk:Int)=x.kids/\(nc:Int)=x.a0k/\x.low<=n/\n<=x.high:=by
 unfold a6x at h
 cases q:a1l op with
 | none=>rw [q] at h;cases h
 | some x =>
  rw [q] at h
  simp only [Bool.and_eq_true,decide_eq_true_eq] at h
  exact ⟨x,rfl,h.1.1.1.1,h.1.1.1.2,h.1.2.1,h.1.2.2⟩
theorem e1q {H:GH} {n ms mn mv ma:Nat} {p:Prog} {W:World'} (hW:Wld H n ms mn mv ma p W) (hd:∀ b ∈ W.defs,a1u b) (e:Exp) (he:NodeOk p e) (ks:List Bag) (hk:ks.length=e.kids.length) (hks:∀ b ∈ ks,a1u b) :
  a0j prog (184+e.op.toNat) [.gp n 0,lv (rExp e),a9a ks] H (d4k (actM p W e.op e.name e.n e.fold e.a0k ks) H):=by
 obtain ⟨x,h1,h2,h3,h4,h5⟩:=c7d he.ok
 have hop:1<=e.op/\e.op<=15:=Classical.byContradiction fun hn=>by
  unfold a1l at h1
  repeat (rw [if_neg (by omega)] at h1)
  cases h1
 obtain ⟨o,ho⟩:∃ o,e.op=o:=⟨_,rfl⟩
 have hcases:o=1 \/ o=2 \/ o=3 \/ o=4 \/ o=5 \/ o=6 \/ o=7 \/ o=8 \/ o=9 \/ o=10 \/ o=11 \/ o=12 \/ o=13 \/ o=14 \/ o=15:=by omega
 rw [ho] at h1 |-
 have hnm:=he.nm
 have hdf:=he.df
 have hcs:=he.cs
 rw [ho] at hnm hdf
 rcases hcases with rfl | rfl | rfl | rfl | rfl | rfl | rfl | rfl | rfl | rfl | rfl | rfl | rfl | rfl | rfl
 all_goals
  simp [a1l] at h1
  subst h1
  simp only at h2 h3 h4 h5
 ·exact a5b (c6o hW e ks (hnm rfl))
 ·exact a5b (e1p hW e ks (hdf (.inl rfl)))
 ·exact a5b (d8j hW e ks (hdf (.inr rfl)) (by omega) hd)
 ·obtain ⟨a,b,rfl⟩:=d0b (l:=ks) (by omega)
  exact b8g (d8o n e a b (hks a (by simp)) (hks b (by simp)))
 ·obtain ⟨a,rfl⟩:=b1k (l:=ks) (by omega)
  obtain ⟨c,hc⟩:=c9x (l:=e.a0k) (by omega)
  rw [hc]
  exact b8g (d0p n e c a (hks a (by simp)) hc (hcs c (by rw [hc];simp)))
 ·obtain ⟨a,rfl⟩:=b1k (l:=ks) (by omega)
  obtain ⟨c,d,hc⟩:=f1y (l:=e.a0k) (by omega)
  rw [hc]
  exact a5b (d8n n e c d a (hks a (by simp)) hc (hcs c (by rw [hc];simp)) (hcs d (by rw [hc];simp)) H)
 ·obtain ⟨a,rfl⟩:=b1k (l:=ks) (by omega)
  exact b8g (d0s n e a (hks a (by simp)) (by omega))
 ·obtain ⟨a,rfl⟩:=b1k (l:=ks) (by omega)
  exact d0t n e a (hks a (by simp)) (by omega) H
 ·obtain ⟨a,rfl⟩:=b1k (l:=ks) (by omega)
  exact d0r n e a (hks a (by simp)) (by omega) H
 ·obtain ⟨a,rfl⟩:=b1k (l:=ks) (by omega)
  exact d0q n e a (hks a (by simp)) H
 ·obtain ⟨a,rfl⟩:=b1k (l:=ks) (by omega)
  exact d8i n e a (hks a (by simp)) (by omega) H
 ·obtain ⟨a,b,rfl⟩:=d0b (l:=ks) (by omega)
  obtain ⟨c,hc⟩:=c9x (l:=e.a0k) (by omega)
  rw [hc]
  exact a5b (d8k n e c a b (hks a (by simp)) (hks b (by simp)) hc (hcs c (by rw [hc];simp)) (by omega) H)
 ·obtain ⟨a,b,rfl⟩:=d0b (l:=ks) (by omega)
  obtain ⟨c,hc⟩:=c9x (l:=e.a0k) (by omega)
  rw [hc]
  exact a5b (d8p n e c a b (hks a (by simp)) (hks b (by simp)) hc (hcs c (by rw [hc];simp)) H)
 ·obtain ⟨a,b,rfl⟩:=d0b (l:=ks) (by omega)
  exact a5b (d8m n e a b (hks a (by simp)) (hks b (by simp)) (by omega) H)
 ·obtain ⟨a,rfl⟩:=b1k (l:=ks) (by omega)
  exact a5b (d8l n e a (hks a (by simp)) H)
def ItB (x:Item):Prop:=(1<=x.n/\x.n<=1000000000000)/\a1z x.rec_.key/\a1z x.rec_.val
theorem ItIn.b {x:Item} (h:ItIn x):ItB x:=⟨⟨h.2.2.2.1,by have:=h.2.2.2.2;omega⟩,h.2.1,h.2.2.1⟩
theorem e3x {n:Int} {l:List Item} (h:∀ x ∈ l,ItB x):∀ x ∈ a4r n l,ItB x:=fun x hx=>by
 obtain ⟨y,hy,rfl⟩:=List.mem_map.1 hx
 exact h y hy
theorem b2s {f more key:Int} {sp:Int->Option (Int × Int)} {row:List Item} (hk:a1z key):∀ (l:List Item) (last:Int),∀ x ∈ a2q f more key sp row l last,ItB x
 | [],_,x,hx=>by simp [a2q] at hx
 | y :: l,last,x,hx=>by
  rw [a2q] at hx
  split at hx
  ·exact b2s hk l last x hx
  ·split at hx
   ·exact b2s hk l last x hx
   ·rcases List.mem_cons.1 hx with q | q
    ·subst q;exact ⟨⟨Int.le_refl _,by simp only;omega⟩,hk,a7v _⟩
    ·exact b2s hk l _ x q
theorem c4h {f more:Int} {sp:List Item->Int->Option (Int × Int)} {b:Bag} (hb:a1u b):(a4h f more sp b).length<=90000/\∀ x ∈ a4h f more sp b,ItB x:=by
 constructor
 ·have h1:=a6a (f:=b4e f more sp b) (B:=300) (fun k=>Nat.le_trans (a5o _ _) (Nat.le_trans (c4l _ _) hb.2.1)) (keysOf b)
  have h3:=b4v b
  have h4:=hb.2.1
  have h5:(keysOf b).length * 300<=300 * 300:=Nat.mul_le_mul_right _ (by omega)
  unfold a4h;omega
 ·intro x hx
  obtain ⟨k,hk,hx⟩:=List.mem_flatMap.1 hx
  obtain ⟨y,hy,rfl⟩:=a7m.1 hk
  exact b2s (hb.2.2 y hy).2.1 _ _ x hx
theorem d0g {p:Prog} {W:World'} (hs:∀ b ∈ W.srcs,a1u b) (hd:∀ b ∈ W.defs,a1u b) (e:Exp) (he:NodeOk p e) (ks:List Bag) (hk:ks.length=e.kids.length) (hks:∀ b ∈ ks,a1u b) :
  (actM p W e.op e.name e.n e.fold e.a0k ks).length<=90000/\∀ x ∈ actM p W e.op e.name e.n e.fold e.a0k ks,ItB x:=by
 obtain ⟨x,h1,h2,h3,h4,h5⟩:=c7d he.ok
 have hcs:=he.cs
 have hget:∀ (L:List Bag) (i:Nat),(∀ b ∈ L,a1u b)->(L.getD i []).length<=300/\∀ x ∈ L.getD i [],ItIn x:=fun L i hL=>by
  by_cases q:i < L.length
  ·have:L.getD i []=L[i]:=by simp [List.getD,List.getElem?_eq_getElem q]
   rw [this]
   exact (hL _ (List.getElem_mem q)).2
  ·have:L.getD i []=[]:=by simp [List.getD,List.getElem?_eq_none (Nat.le_of_not_lt q)]
   rw [this];simp
 have hop:1<=e.op/\e.op<=15:=Classical.byContradiction fun hn=>by
  unfold a1l at h1
  repeat (rw [if_neg (by omega)] at h1)
  cases h1
 obtain ⟨o,ho⟩:∃ o,e.op=o:=⟨_,rfl⟩
 have hcases:o=1 \/ o=2 \/ o=3 \/ o=4 \/ o=5 \/ o=6 \/ o=7 \/ o=8 \/ o=9 \/ o=10 \/ o=11 \/ o=12 \/ o=13 \/ o=14 \/ o=15:=by omega
 rw [ho] at h1 |-
 rcases hcases with rfl | rfl | rfl | rfl | rfl | rfl | rfl | rfl | rfl | rfl | rfl | rfl | rfl | rfl | rfl
 all_goals
  simp [a1l] at h1
  subst h1
  simp only at h2 h3 h4 h5
 ·have:=hget W.srcs (idx p.srcs e.name).toNat hs
  exact ⟨by simp [actM] at this |-;omega,fun x hx=>(this.2 x (by simpa [actM] using hx)).b⟩
 ·have:=hget W.defs (idx (a0d p) e.name).toNat hd
  exact ⟨by simp [actM] at this |-;omega,fun x hx=>(this.2 x (by simpa [actM] using hx)).b⟩
 ·have:=hget W.defs (idx (a0d p) e.name).toNat hd
  exact ⟨by simp [actM,a4r] at this |-;omega,e3x fun x hx=>(this.2 x (by simpa using hx)).b⟩
 ·obtain ⟨a,b,rfl⟩:=d0b (l:=ks) (by omega)
  have ha:=hks a (by simp)
  have hb:=hks b (by simp)
  refine ⟨by have:=ha.2.1;have:=hb.2.1;simp [actM];omega,fun x hx=>?_⟩
  simp [actM] at hx
  rcases hx with q | q
  ·exact (ha.2.2 x q).b
  ·exact (hb.2.2 x q).b
 ·obtain ⟨a,rfl⟩:=b1k (l:=ks) (by omega)
  have ha:=hks a (by simp)
  simp only [actM]
  exact ⟨Nat.le_trans (List.length_filter_le _ _) (by have:=ha.2.1;simp;omega),fun x hx=>(ha.2.2 x (List.mem_filter.1 hx).1).b⟩
 ·obtain ⟨a,rfl⟩:=b1k (l:=ks) (by omega)
  obtain ⟨c,d,hc⟩:=f1y (l:=e.a0k) (by omega)
  have ha:=hks a (by simp)
  rw [hc] at hcs |-
  refine ⟨by have:=ha.2.1;simp [actM,d3n];omega,fun x hx=>?_⟩
  simp only [actM] at hx
  obtain ⟨y,hy,rfl⟩:=List.mem_map.1 hx
  have hyi:=ha.2.2 y hy
  exact ⟨hyi.b.1,b5d (b9j hyi) (by unfold a1z;omega) (hcs c (by simp)),b5d (b9j hyi) (by unfold a1z;omega) (hcs d (by simp))⟩
 ·obtain ⟨a,rfl⟩:=b1k (l:=ks) (by omega)
  have ha:=hks a (by simp)
  exact ⟨by have:=ha.2.1;simp [actM,a4r];omega,e3x fun x hx=>(ha.2.2 x hx).b⟩
 ·obtain ⟨a,rfl⟩:=b1k (l:=ks) (by omega)
  exact c4h (hks a (by simp))
 ·obtain ⟨a,rfl⟩:=b1k (l:=ks) (by omega)
  exact c4h (hks a (by simp))
 ·obtain ⟨a,rfl⟩:=b1k (l:=ks) (by omega)
  exact c4h (hks a (by simp))
 ·obtain ⟨a,rfl⟩:=b1k (l:=ks) (by omega)
  exact c4h (hks a (by simp))
 ·obtain ⟨a,b,rfl⟩:=d0b (l:=ks) (by omega)
  obtain ⟨c,hc⟩:=c9x (l:=e.a0k) (by omega)
  have ha:=hks a (by simp)
  have hb:=hks b (by simp)
  rw [hc] at hcs |-
  refine ⟨Nat.le_trans (c7o _ _ _ _ hb.2.1) (by have:=ha.2.1;simp;omega),fun x hx=>?_⟩
  obtain ⟨y,hy,hx⟩:=List.mem_flatMap.1 (show x ∈ b1j e.n c a b from hx)
  obtain ⟨u,hu,rfl⟩:=List.mem_map.1 hx
  have hyi:=ha.2.2 y hy
  have hui:=hb.2.2 u (row_mem (a5i hu)).1
  have hr':d9j ⟨maxI y.rec_.at_ u.rec_.at_,y.rec_.key,y.rec_.val⟩:=⟨by have:=hui.1;have:=hyi.1;unfold a1z maxI;split <;> simp only <;> omega,hyi.2.1,hyi.2.2.1⟩
  exact ⟨f5e hyi hui,hyi.2.1,b5d hr' hui.2.2.1 (hcs c (by simp))⟩
 ·obtain ⟨a,b,rfl⟩:=d0b (l:=ks) (by omega)
  obtain ⟨c,hc⟩:=c9x (l:=e.a0k) (by omega)
  have ha:=hks a (by simp)
  have hb:=hks b (by simp)
  rw [hc] at hcs |-
  refine ⟨Nat.le_trans (d0c c a b) (by have:=ha.2.1;omega),fun x hx=>?_⟩
  obtain ⟨y,hy,hx⟩:=List.mem_flatMap.1 (show x ∈ a9c c a b from hx)
  have hyi:=ha.2.2 y hy
  split at hx
  ·cases hx
  ·rename_i u hu
   simp only [List.mem_singleton] at hx
   subst hx
   have hui:=hb.2.2 u (row_mem (a5i (List.mem_of_getLast? hu))).1
   exact ⟨hyi.b.1,hyi.2.1,b5d (b9j hyi) hui.2.2.1 (hcs c (by simp))⟩
 ·obtain ⟨a,b,rfl⟩:=d0b (l:=ks) (by omega)
  have ha:=hks a (by simp)
  exact ⟨Nat.le_trans (List.length_filter_le _ _) (by have:=ha.2.1;simp;omega),fun x hx=>(ha.2.2 x (List.mem_filter.1 hx).1).b⟩
 ·obtain ⟨a,rfl⟩:=b1k (l:=ks) (by omega)
  have ha:=hks a (by simp)
  refine ⟨by have:=ha.2.1;simp [actM,c7r];omega,fun x hx=>?_⟩
  obtain ⟨y,hy,rfl⟩:=List.mem_map.1 (show x ∈ c7r a from hx)
  have hyi:=ha.2.2 y hy
  exact ⟨⟨Int.le_refl _,by simp only;omega⟩,hyi.2.1,hyi.2.2.1⟩
theorem d7i {r:Rec}:∀ {l:List Item},(∀ x ∈ l,1<=x.n)->0<=cntM l r
 | [],_=>Int.le_refl _
 | x :: l,h=>by
  have:=d7i (r:=r) (l:=l) fun y hy=>h y (by simp [hy])
  have:=h x (by simp)
  rw [cntM];split <;> omega
theorem f1z {l:List Item} {top:Int} (ht:top<=200) (h:∀ x ∈ l,ItB x) (hf:b0f (a1i l top)=true):a1u (a1i l top):=by
 simp only [b0f,Bool.and_eq_true,decide_eq_true_eq,List.all_eq_true] at hf
 refine ⟨b3v _,hf.1,fun x hx=>?_⟩
 have hn:=hf.2 x hx
 obtain ⟨h1,h2⟩:=a6n.1 hx
 obtain ⟨y,hy,e⟩:=b3r (r:=x.rec_) (by rw [<- h2];exact h1)
 obtain ⟨hyl,hyt⟩:=List.mem_filter.1 hy
 have hyb:=h y hyl
 simp only [decide_eq_true_eq] at hyt
 have hp:=d7i (r:=x.rec_) (l:=l.filter fun x=>decide (0<=x.rec_.at_/\x.rec_.at_<=top)) fun z hz=>(h z (List.mem_filter.1 hz).1).1.1
 unfold ItIn
 rw [<- e]
 exact ⟨by omega,hyb.2.1,hyb.2.2,by omega,hn⟩
end Go.Aft
end
