import Derived.Test.YtdhphbedajhmnaaGreatA44
import Derived.Test.YtdhphbedajhmnaaGreatA40
set_option linter.all false
section
set_option maxRecDepth 20000
namespace Go.Aft
open Go.Proofs.Tryz
theorem term_Canon (p:Prog) (hs:fitP p) (hp:formed p):AFun prog 41 [lv (rProg p)] (.tup [lv (rProg (canP p)),lvI 0]):=by
 intro H
 have cc:=cxK_ok (p:=kds [1] [] [22,44])
 refine ECall.bodyNW (cxK_ok (p:=kds [1] [] [22,44])) func41 rfl call41 (by rw [ntmps41];simp) rfl fun hf hw=>?_
 have hlk:=term_looked p hs H
 obtain ⟨hsl,hdl,hdiff⟩:(1<=p.srcs.length/\p.srcs.length<=4)/\p.defs.length<=6/\diffM (p.srcs ++ defNames p):=by
  obtain ⟨⟨l,hl⟩,_⟩:=hp
  unfold countM at hl
  split at hl
  ·rename_i hc;exact ⟨⟨hc.1,hc.2.1⟩,hc.2.2⟩
  ·cases hl
 have hokP:=(formed_ok hp).1
 have hea:=term_each p.defs (by omega)
 have hren0:=(canP_ok hp).zero
 obtain ⟨L,hL⟩:∃ L,p.srcs ++ defNames p=L:=⟨_,rfl⟩
 have hdn:p.defs.map (·.name)=defNames p:=rfl
 have hLl:L.length=p.srcs.length+p.defs.length:=by rw [<- hL];simp [defNames]
 rw [hdn] at hea
 rw [hL] at hren0 hdiff
 simp [rProg] at hlk hea
 simp [ntmps41,results41,rProg]
 refine AW.seq cc ?_
 simp
 refine AW.seq cc ?_
 simp
 refine EC.of hlk (fun v H1 hR=>?_) (fun v H1 hR=>by rw [if_pos hp] at hR;obtain ⟨⟨_,q⟩,_⟩:=hR;cases q)
 rw [if_pos hp] at hR
 obtain ⟨⟨n,q⟩,hn1,ho1⟩:=hR
 cases q
 simp
 refine AW.seq cc ?_
 simp
 refine AW.seq cc ?_
 simp
 refine AW.seq cc ?_
 simp
 refine AW.draw cc [(1,.n),(4,.n),(5,.n)] (.q 0<|.q 1<|.q 3<|.q 4<|.q 8<|.f<|.one 2<|.q 5<|.f<|.one 6<|.q 7<|.done) (by kernel_rfl) ?_
 have hnb1:H.next<=(H1.add (.map [])).next:=by rw [GH.add_next];omega
 have hcl:=slices_CloneV p.srcs (by intro e;rw [e] at hsl;simp at hsl) (by omega) (H1.add (.map []))
 simp at hcl
 simp
 refine ECn.of hcl (fun v H2 hR hnx=>?_) (fun v H2 env hR hag=>by obtain ⟨_,q,_⟩:=hR;cases q)
 obtain ⟨x,q,hx⟩:=hR
 cases q
 simp [hx.plain.all]
 refine FC.afun hea ?_
 simp [hx.plain.all]
 refine APK.appV (ys:=(defNames p).map rS) tyE22 rfl tyE9 (by simp) (x:=v) (by simp [hx.plain.all]) hx (by simp [srcOf,rowsOf]) (by simp) (fun r hr=>by obtain ⟨s,_,rfl⟩:=List.mem_map.1 hr;exact rS_len s) (fun r hr=>by obtain ⟨s,_,rfl⟩:=List.mem_map.1 hr;exact rS_len s) (by simp [defNames];omega) (by simp) fun x2 H3 hx2 n3 _=>?_
 rw [<- List.map_append,hL] at hx2
 have hm0:(H1.add (.map [])).obj H1.next=some (.map []):=by rw [GH.add_obj,if_pos rfl]
 have ho2:∀ m,m < H.next->H3.obj m=H.obj m:=fun m hm=>by rw [hx2.ob m (by rw [GH.add_next];omega),GH.add_obj,if_neg (by omega),ho1 m hm]
 have hm3:H3.obj H1.next=some (.map []):=by rw [hx2.ob _ (by rw [GH.add_next];omega)];exact hm0
 have hx2n:=hx2.nx
 rw [GH.add_next] at hx2n
 rcases id hx2.is with ⟨e,_⟩ | ⟨n2,g,q1,q2,rfl,q4,q5⟩
 ·have:=congrArg List.length e
  simp only [List.length_map,List.length_nil] at this;omega
 rw [GH.add_next] at q1
 simp
 refine AW.thaw (n:=n2) (g:=g) (sz:=1) (e:=9) (ex:=false) (L.map rS) q4 rfl (fun r hr=>by obtain ⟨s,_,rfl⟩:=List.mem_map.1 hr;exact rS_len s) ?_
 obtain ⟨H4,hH4⟩:∃ H4,H3.thaw n2 g 1 (L.map rS)=H4:=⟨_,rfl⟩
 have o4:∀ m,m < H.next->H4.obj m=H.obj m:=fun m hm=>by rw [<- hH4];exact thaw_lt hw (by omega) ho2 hm
 have n4:H4.next=H3.next:=by rw [<- hH4];rfl
 have m4:H4.obj H1.next=some (.map []):=by
  rw [<- hH4]
  simp only [GH.thaw]
  rw [if_neg (by omega),hm3];simp [GO.thaw]
 have htk:(L.map rS).take L.length=L.map rS:=List.take_of_length_le (by simp)
 refine AW.loopS cc (fun a:Nat × LV × GH=>⟨[(1,.ip ((rProg p).map .d) 0),(2,.lp 2 0),(4,.gm H1.next),(5,a.2.1),(22,.d (.sl (L.map rS))),(23,lvI L.length),(24,lvI a.1)],[(2,[.d (.k (.slice none 0 0)),.d (.k (.slice none 0 0))])],a.2.2⟩) (fun a=>L.length - a.1)
  (fun a=>a.1<=L.length/\AppX 9 1 (H4.set H1.next (.map (letEs (L.take a.1) 0))) a.2.1 (((List.range a.1).map letter).map rS) a.2.2) (0,.d (.k (.slice none 0 0)),H4) ⟨⟨Nat.zero_le _,by
   have:H4.set H1.next (.map (letEs (L.take 0) 0))=H4:=GH.set_id (by simpa [letEs] using m4)
   rw [this];exact .nil⟩,by simp [rProg,htk];exact hH4⟩ ?_
 rintro ⟨i,x,H5⟩ ⟨hi,hxx⟩
 simp only at hi hxx
 have o5:H5.obj H1.next=some (.map (letEs (L.take i) 0)):=by rw [hxx.ob _ (by rw [GH.set_next];omega),GH.set_same]
 have n5:=hxx.nx
 rw [GH.set_next] at n5
 simp
 refine ⟨fun h=>?_,fun h=>?_⟩
 ·have hfr:AFun prog 77 [x] (.d (.k (.string (letter i)))):=AFun.fzA (by
   have:=term_Fresh i (by omega)
   simpa [fzs,hxx.fz] using this)
  have hkey:=eq_true (let_has (L.take i) 0)
  have hput:mput (.string L[i]) (.d (.k (.string (letter i)))) (letEs (L.take i) 0)=letEs (L.take (i+1)) 0:=by
   have:=mput_let (L.take i) 0 L[i] (hdiff i h).2
   rw [take_more h,List.length_take,Nat.min_eq_left hi,Nat.zero_add] at this
   exact this
  have hkey2:=eq_true (let_has (L.take (i+1)) 0)
  have hget:(mfind (.string L[i]) (letEs (L.take (i+1)) 0)).getD (.d (.k (.string ⟨#[]⟩)))=.d (.k (.string (letter i))):=by
   have hix:idx (L.take (i+1)) L[i]=(i:Int):=idx_at (by simp;omega) (by simp) fun j hj hji e=>(hdiff i h).2 (by
    rw [<- e];exact List.mem_iff_getElem.2 ⟨j,by simp;omega,by simp⟩)
   rw [mfind_let,hix,if_neg (by omega)];simp
  have hnx5:H1.next < H5.next:=by omega
  simp [h,List.getElem?_eq_getElem h,rS,hxx.plain.all,hxx.nb]
  refine EC.afun hfr ?_
  have hs6:=hxx.set (k:=H1.next) (by rw [GH.set_next];omega) (.map (letEs (L.take (i+1)) 0))
  rw [GH.set_set] at hs6
  have o6:∀ X,(H5.set H1.next X).obj H1.next=some X:=fun X=>GH.set_same
  simp [o5,hkey,hput,hkey2,hget,hnx5,hs6.plain.all,o6]
  refine APK.appX (ys:=[rS (letter i)]) tyE22 rfl tyE9 (by simp) (x:=x) (by simp) hs6 (by simp [rS,rowsOf]) (by simp) (fun r hr=>by obtain ⟨_,_,rfl⟩:=List.mem_map.1 hr;simp) (by simp) (by simp;omega) (by simp) fun x' H6 h6 _ _=>?_
  rw [show ((List.range i).map letter).map rS ++ [rS (letter i)]=((List.range (i+1)).map letter).map rS by rw [List.range_succ,List.map_append,List.map_append];rfl] at h6
  simp [h6.plain.all,wrap_succ (n:=9223372036854775807) (show i < 9223372036854775807 by omega)]
  exact NX.go (i+1,x',H6) (by simp only;omega) ⟨h,h6⟩ (by simp [rProg,h6.only])
 ·have e:i=L.length:=by omega
  subst e
  rw [List.take_length] at hxx o5
  have hsr:((List.range L.length).map letter).take p.srcs.length=(canP p).srcs:=by
   rw [<- canN_map hdiff,<- hL,List.map_append,List.take_left' (by simp)]
   simp [canP,renP]
  have hcl2:=slices_CloneV (canP p).srcs (by intro e;have:=congrArg List.length e;simp [canP,renP] at this;rw [this] at hsl;simp at hsl) (by simp [canP,renP];omega) H5
  simp at hcl2
  refine AW.fzT 5 ?_
  simp [hxx.fz]
  refine AW.seq cc ?_
  have htk2:List.take p.srcs.length (List.map (rS ∘ letter) (List.range L.length))=(canP p).srcs.map rS:=by
   rw [<- hsr,List.map_take,List.map_map]
  have hlt:p.srcs.length<=L.length:=by omega
  simp [rProg,hlt,htk2]
  refine EC.of hcl2 (fun v H6 hR=>?_) (fun v H6 hR=>by obtain ⟨_,q,_⟩:=hR;cases q)
  obtain ⟨y,q,hy⟩:=hR
  cases q
  simp [hy.plain.all]
  have n6:=hy.nx
  rcases id hy.is with ⟨e,_⟩ | ⟨n7,g7,r1,r2,rfl,r4,r5⟩
  ·have:=congrArg List.length e
   simp only [List.length_map,List.length_nil,canP,renP] at this;omega
  have o6:∀ m,m < H.next->H6.obj m=H.obj m:=fun m hm=>by
   rw [hy.ob m (by omega),hxx.ob m (by rw [GH.set_next];omega),GH.set_obj,if_neg (by omega),o4 m hm]
  have m6:H6.obj H1.next=some (.map (letEs L 0)):=by rw [hy.ob _ (by omega)];exact o5
  refine AW.thaw (n:=n7) (g:=g7) (sz:=1) (e:=9) (ex:=false) ((canP p).srcs.map rS) r4 rfl (fun r hr=>by obtain ⟨s,_,rfl⟩:=List.mem_map.1 hr;exact rS_len s) ?_
  obtain ⟨H7,hH7⟩:∃ H7,H6.thaw n7 g7 1 ((canP p).srcs.map rS)=H7:=⟨_,rfl⟩
  have o7:∀ m,m < H.next->H7.obj m=H.obj m:=fun m hm=>by rw [<- hH7];exact thaw_lt hw (by omega) o6 hm
  have n7':H7.next=H6.next:=by rw [<- hH7];rfl
  have m7:H7.obj H1.next=some (.map (letEs L 0)):=by
   rw [<- hH7]
   simp only [GH.thaw]
   rw [if_neg (by omega),m6]
   simp only [Option.map_some]
   rw [GO.thaw_nb (N:=n7) (Nat.le_refl _) (by simpa [GO.nb] using letEs_nb L 0 n7)]
  have htk3:((canP p).srcs.map rS).take (canP p).srcs.length=(canP p).srcs.map rS:=List.take_of_length_le (by simp)
  refine AW.seq cc ?_
  simp
  refine AW.loopS cc (fun a:Nat × LV × GH=>⟨[(2,.lp 2 0),(4,.gm H1.next),(8,.lp 8 0),(47,.d (.sl (p.defs.map rDef))),(48,lvI p.defs.length),(49,lvI a.1)],
   [(2,[.d (.k (.slice none 0 0)),.d (.k (.slice none 0 0))]),(8,[.d (.sl ((canP p).srcs.map rS)),a.2.1])],a.2.2⟩) (fun a=>p.defs.length - a.1)
   (fun a=>a.1<=p.defs.length/\AppX 107 7 H7 a.2.1 (((p.defs.take a.1).map (renD (canN L))).map rDef) a.2.2) (0,.d (.k (.slice none 0 0)),H7) ⟨⟨Nat.zero_le _,.nil⟩,by simp [rProg,htk3];exact hH7⟩ ?_
  rintro ⟨i,z,H8⟩ ⟨hi8,hz8⟩
  simp only at hi8 hz8
  simp
  refine ⟨fun h=>?_,fun h=>?_⟩
  ·have hre:=fun (G:GH) (hG:G.obj H1.next=some (.map (letEs L 0)))=>term_renamed (canN L) hren0 H1.next (letEs L 0) (letEs_mapT L) p.defs[i].exp (hokP.2.2 _ (List.getElem_mem h)) G hG
   have hget:=(letEs_mapT L).get
   have hkey:=eq_true (letEs_mapT L).key
   have o8:H8.obj H1.next=some (.map (letEs L 0)):=by rw [hz8.ob _ (by omega)];exact m7
   have n8:=hz8.nx
   have hlt8:H1.next < H8.next:=by omega
   simp [rExp_eq] at hre
   simp [h,List.getElem?_eq_getElem h,rDef,rExp_eq]
   refine AW.draw cc [(9,.r)] (.q 0<|.q 2<|.q 3<|.q 6<|.q 8<|.q 1<|.f (.cons 4 (.f (.cons 5 (.f<|.one 7<|.q 9<|.q 10<|.q 11<|.f<|.one 12<|.q 13<|.f<|.one 14<|.done) (.cons 7 (.q 9<|.f<|.one 5<|.q 10<|.q 11<|.f<|.one 12<|.q 13<|.f<|.one 14<|.done) (.nil)))) (.cons 7 (.q 9<|.f<|.one 4<|.f<|.one 5<|.q 10<|.q 11<|.f<|.one 12<|.q 13<|.f<|.one 14<|.done) (.nil)))) (by kernel_rfl) ?_
   simp [o8,hget,hkey]
   have hrd:rDef (renD (canN L) p.defs[i])=.k (.string (canN L p.defs[i].name)) :: rExp (renE (canN L) p.defs[i].exp):=rfl
   have hall:((p.defs.take i).map (renD (canN L))).map rDef ++ [rDef (renD (canN L) p.defs[i])]=((p.defs.take (i+1)).map (renD (canN L))).map rDef:=by rw [<- take_more h,List.map_append,List.map_append];rfl
   refine ⟨⟨⟨hlt8,FC.read (fun s' hg=>hre _ (hg.obj _ _ o8 (fun _ _ _ q=>by cases q))) ?_⟩,hlt8,FC.read (fun s' hg=>hre _ (hg.obj _ _ o8 (fun _ _ _ q=>by cases q))) ?_⟩,hlt8,FC.read (fun s' hg=>hre _ (hg.obj _ _ o8 (fun _ _ _ q=>by cases q))) ?_⟩
   all_goals
    simp [o8,hget,hkey]
    refine APK.appX (ys:=[rDef (renD (canN L) p.defs[i])]) tyE23 rfl tyE107 (by simp) (x:=z) (by simp [hz8.plain.all]) hz8 (by simp [rowsOf,hrd,rExp_eq]) (by simp) (fun r hr=>by obtain ⟨_,_,rfl⟩:=List.mem_map.1 hr;simp) (by simp) (by simp;omega) (by simp) fun z' H9 h9 _ _=>?_
    rw [hall] at h9
    simp [h9.plain.all,wrap_succ (n:=9223372036854775807) (show i < 9223372036854775807 by omega)]
    exact NX.go (i+1,z',H9) (by simp only;omega) ⟨h,h9⟩ (by simp [h9.only])
  ·have e:i=p.defs.length:=by omega
   subst e
   rw [List.take_length] at hz8
   refine AW.ev cc ?_
   have hres:rProg (canP p)=[.sl ((canP p).srcs.map rS),.sl ((p.defs.map (renD (canN L))).map rDef)]:=by
    rw [<- hL];rfl
   simp [hz8.plain.all,hz8.fz,hres]
   exact fun hz=>Drop_same (by have:=hz8.nx;omega) (fun m hm=>by rw [hz8.ob m (by omega)];exact o7 m hm) hw.none
theorem canP_fit {p:Prog} (hp:formed p):fitP (canP p):=by
 have hk:=canP_ok hp
 intro s hs
 have:s ∈ (p.srcs ++ defNames p).map (canN (p.srcs ++ defNames p)):=by
  rw [List.map_append]
  rw [show defNames (canP p)=(defNames p).map (canN (p.srcs ++ defNames p)) from renP_names _ _] at hs
  exact hs
 obtain ⟨t,ht,rfl⟩:=List.mem_map.1 this
 unfold strFit canN
 split
 ·rw [letter_size];omega
 ·simp [noName,ByteArray.size]
theorem law_Put (p:Prog) (hs:fitP p) (l:List News) (a:Ask):AFun prog 11 [lv (rProg p),sl (l.map rNews),lv (rAsk a)] (.d (.k (.bool true))):=by
 have cc:=cxS_ok (p:=kds [3,5] [] [])
 refine AFun.bodyW (cxS_ok (p:=kds [3,5] [] [])) func11 rfl call11 (by rw [ntmps11];simp) rfl fun hf H=>?_
 have a1:=law_asked p hs l a
 have hk:=law_known
 by_cases q:askE p a.d l a.room a.window a.key=0
 rotate_left
 ·generalize askE p a.d l a.room a.window a.key=e1 at a1 q
  simp [rProg,rAsk,rRoom,dI] at a1
  simp [ntmps11,results11,rProg,rAsk,rRoom,dI] at hf |-
  refine AW.seq cc ?_
  simp
  refine AW.seq cc ?_
  simp
  refine EC.afun a1 ?_
  simp [q]
  refine EC.afun hk ?_
  simp
 ·have hp:=(askE_facts q).1.1
  obtain ⟨r1,r2⟩:=ren_law q (canP_ok hp)
  have h1:=law_bound p hs l a
  have h2:=law_bound (canP p) (canP_fit hp) l a
  have h3:=term_Canon p hs hp
  change ofM (canP p) a.d l a.room a.window a.key=_ at r1
  rw [r1] at h2
  rw [q] at a1
  generalize ofM p a.d l a.room a.window a.key=B at h1 h2 r2
  generalize canP p=p2 at h2 h3
  obtain ⟨⟨b1,b2,b3,b4⟩,e⟩:=B
  simp only at r2
  subst r2
  simp [rProg,rAsk,rRoom,dI,rNB,dB] at a1 h1 h2 h3
  simp [ntmps11,results11,rProg,rAsk,rRoom,dI] at hf |-
  refine AW.seq cc ?_
  simp
  refine AW.seq cc ?_
  simp
  refine EC.afun a1 ?_
  simp
  refine AW.seq cc ?_
  simp
  refine EC.afun h3 ?_
  simp
  refine AW.seq cc ?_
  simp
  refine EC.afun h1 ?_
  simp
  refine AW.seq cc ?_
  simp
  refine EC.afun h2 ?_
  simp
  refine AW.ev cc ?_
  simp
  refine EC.afun hk ?_
  simp
end Go.Aft
end
section
set_option maxRecDepth 20000
namespace Go.Aft
open Go.RowKit
open Go.Proofs.Tryz
section
variable {H:Type} {enc:TypeId × Value->H} {w:World}
theorem read_slice {P:Program} {α:Type} {t e:TypeId} {r:List α->List DV} {x1:List α->DV} {fit:List α->Prop} {base:Nat} {v:Value} {d:DataW H} {p:List MemPlace} (hr:∀ fuel,Rd enc P w t r fit fuel) (hx:∀ x,r x=[x1 x]) (hu:P.underlying t=some (.slice e))
  (hval:Value.okWide P w .any base t v) (hd:DataW.Trod enc P w 0 (fun _=>true) true t v d p) (hw:Wt P t d):∃ x,fit x/\LR (allG w) 0 noL (.d (x1 x)) v:=by
 obtain ⟨a,len,cap,rfl⟩:=Go.WideShapes.okWide_slice hu hval
 obtain ⟨fuel,hf⟩:=hd
 obtain ⟨x,h1,h2⟩:=hr fuel _ _ _ hf
 refine ⟨x,h2 hw,?_⟩
 rw [hx] at h1
 have h3:=RL_LRs (G:=allG w) (nx:=0) (lm:=noL) h1
 simp only [List.map_cons,List.map_nil] at h3
 unfold LRs at h3
 obtain ⟨v',vs',e,h4,_⟩:=h3
 have:v'=.slice a len cap:=by
  have:=congrArg List.head? e
  simpa [Value.cells] using this.symm
 rw [<- this];exact h4
theorem rd_news (fuel:Nat):Rd enc prog w 53 rNews (fun _=>True) fuel :=
 Rd.struct underlying53 fuel fun f hf=>((RdFs.cons (n:=7) rfl (Rd.int underlying51 f)<|RdFs.cons rfl (Rd.int underlying3 f)<|RdFs.cons rfl (Rd.int underlying3 f)<|RdFs.cons rfl (Rd.int underlying3 f)<|RdFs.cons rfl (rd_rec f)<|RdFs.nil)).conv (fun x=>⟨x.1,x.2.1,x.2.2.1,x.2.2.2.1,x.2.2.2.2.1⟩) (fun _=>rfl) (fun _ _=>trivial)
theorem rd_newsL (fuel:Nat):Rd enc prog w 35 (fun l:List News=>[.sl (l.map rNews)]) (fun l=>∀ n ∈ l,True) fuel:=Rd.slice underlying35 (by decide +kernel) (fun x=>by rw [show prog.cellsOf 53=7 by decide +kernel];rfl) fuel fun f _=>rd_news f
theorem rd_room (fuel:Nat):Rd enc prog w 37 rRoom (fun _=>True) fuel :=
 Rd.struct underlying37 fuel fun f hf=>((RdFs.cons (n:=3) rfl (Rd.int underlying3 f)<|RdFs.cons rfl (Rd.int underlying3 f)<|RdFs.cons rfl (Rd.int underlying3 f)<|RdFs.nil)).conv (fun x=>⟨x.1,x.2.1,x.2.2.1⟩) (fun _=>rfl) (fun _ _=>trivial)
theorem rd_ask (fuel:Nat):Rd enc prog w 39 rAsk (fun _=>True) fuel :=
 Rd.struct underlying39 fuel fun f hf=>((RdFs.cons (n:=6) rfl (Rd.int underlying3 f)<|RdFs.cons rfl (rd_room f)<|RdFs.cons rfl (Rd.int underlying3 f)<|RdFs.cons rfl (Rd.int underlying3 f)<|RdFs.nil)).conv (fun x=>⟨x.1,x.2.1,x.2.2.1,x.2.2.2.1⟩) (fun _=>rfl) (fun _ _=>trivial)
end
end Go.Aft
end
