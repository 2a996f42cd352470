import Derived.Test.YthinedikejlgmaaGreatA49
import Derived.Test.YthinedikejlgmaaGreatA39
import Derived.Test.YthinedikejlgmaaGreatA34
import Derived.Test.YthinedikejlgmaaGreatA48
set_option linter.all false
section
set_option maxRecDepth 20000
namespace Go.Aft
open Go.Proofs.Tryz
theorem e5l (l:List Exp) (hl:l.length * 88<=140737488351232) (hk:∀ k ∈ l,AFun prog 102 [lv (rExp k)] (lv (rExp k))):AFun prog 162 [sl (l.map rExp),.fn (.func 102) [] []] (sl (l.map rExp)):=by
 intro H
 have cc:=cx0_ok
 refine a0j.a1j cx0_ok func162 rfl call162 (by rw [ntmps162];simp) rfl fun hf hw=>?_
 simp [ntmps162,results162] at hf |-
 refine AW.a0w cc (fun a:Nat × LV × GH=>⟨[(1,.fn (.func 102) [] []),(5,a.2.1),(8,.d (.sl (l.map rExp))),(9,lvI l.length),(10,lvI a.1)],[],a.2.2⟩) (fun a=>l.length - a.1) (fun a=>a.1<=l.length/\AppX 68 6 H a.2.1 ((l.take a.1).map rExp) a.2.2) (0,.d (.k (.slice none 0 0)),H) ⟨⟨by simp,.nil⟩,by simp⟩ ?_
 rintro ⟨i,x,H'⟩ ⟨hi,happ⟩
 simp only at hi happ
 simp
 refine ⟨fun h=>?_,fun h=>?_⟩
 ·have hd:=hk l[i] (List.getElem_mem h)
  simp [a0c] at hd
  simp [h,List.getElem?_eq_getElem h,a0c,happ.plain.all]
  refine EC.afun hd ?_
  simp [happ.plain.all]
  refine APK.appX (ys:=[rExp l[i]]) tyE64 rfl tyE68 (by simp) (x:=x) (by simp) happ (by simp [a0c,rowsOf]) (by simp) (fun r hr=>by obtain ⟨_,_,rfl⟩:=List.mem_map.1 hr;simp) (by simp) (by simp;omega) (by simp) fun x' H3 happ' _ _=>?_
  rw [show (l.take i).map rExp ++ [rExp l[i]]=(l.take (i+1)).map rExp by rw [<- a0p h,List.map_append];rfl] at happ'
  simp [happ'.plain.all,happ'.only,wrap_succ (n:=9223372036854775807) (show i < 9223372036854775807 by omega)]
  exact NX.go (i+1,x',H3) (by simp;omega) ⟨h,happ'⟩ (by simp [happ'.only,happ'.plain.all,LV.only,a3c])
 ·have:i=l.length:=by omega
  subst this
  rw [List.take_length] at happ
  simp [happ.plain.all,happ.fz]
  exact fun hz=>a0m happ.nx happ.ob hw.none
theorem d8r (op:Int) (name:Str) (n fold:Int) (a0k:List Calc) (kids:List Exp) (hc:okCs a0k) (hcl:a0k.length * 40<=140737488351232) (hkl:kids.length * 88<=140737488351232) (ih:∀ k ∈ kids,AFun prog 102 [lv (rExp k)] (lv (rExp k))) :
  AFun prog 102 [lv (rExp (.mk op name n fold a0k kids))] (lv (rExp (.mk op name n fold a0k kids))):=by
 have cc:=a0g (p:=kds [] [] [])
 refine AFun.body (a0g (p:=kds [] [] [])) func102 rfl call102 (by rw [ntmps102];simp) rfl fun hf H=>?_
 have h1:=b9t a0k hcl (a8a a0k hc)
 have h2:=e5l kids hkl ih
 simp at h1 h2
 simp [ntmps102,results102,a0c,Exp.op,Exp.n,Exp.kids,Exp.name,Exp.fold,Exp.a0k]
 refine AW.draw cc [(2,.n),(5,.n)] (.q 0<|.q 3<|.q 1<|.q 2<|.q 4<|.q 5<|.q 6<|.f<|.one 7<|.q 8<|.f<|.one 9<|.done) (by kernel_rfl) ?_
 simp
 refine FC.afun h1 ?_
 simp
 refine FC.afun h2 ?_
 simp [a0c,Exp.op,Exp.n,Exp.kids,Exp.name,Exp.fold,Exp.a0k]
mutual
theorem c6u:∀ e:Exp,okE e->AFun prog 102 [lv (rExp e)] (lv (rExp e))
 | .mk op name n fold a0k kids,h=>by
  rw [okE] at h
  exact d8r op name n fold a0k kids h.2.2.1 h.1 h.2.1 (c1p kids h.2.2.2)
theorem c1p:∀ es:List Exp,okEs es->∀ k ∈ es,AFun prog 102 [lv (rExp k)] (lv (rExp k))
 | [],_,k,hk=>by cases hk
 | e :: es,h,k,hk=>by
  rw [okEs] at h
  rcases List.mem_cons.1 hk with q | hk
  ·rw [q];exact c6u e h.1
  ·exact c1p es h.2 k hk
end
mutual
theorem e3f:∀ e:Exp,okE e->∀ x ∈ allE e,okE x
 | .mk op name n fold a0k kids,h,x,hx=>by
  rw [allE] at hx
  rcases List.mem_cons.1 hx with q | q
  ·rw [q];exact h
  ·rw [okE] at h
   exact d5r kids h.2.2.2 x q
theorem d5r:∀ es:List Exp,okEs es->∀ x ∈ a0y es,okE x
 | [],_,x,hx=>by rw [a0y] at hx;cases hx
 | e :: es,h,x,hx=>by
  rw [okEs] at h
  rw [a0y] at hx
  rcases List.mem_append.1 hx with q | q
  ·exact e3f e h.1 x q
  ·exact d5r es h.2 x q
end
def OwnV (N:Nat) (x:LV) (rows:List (List DV)) (G:GH):Prop:=VApp 68 6 ⟨G.obj,N⟩ x rows G
theorem OwnV.set {N:Nat} {x:LV} {rows:List (List DV)} {G:GH} (h:OwnV N x rows G) {k:Nat} (hk:k < N) (o:GO):OwnV N x rows (G.set k o):=by
 refine ⟨?_,h.nx,fun m hm=>rfl⟩
 rcases h.is with q | ⟨n,g,q1,q2,q3,q4,q5⟩
 ·exact .inl q
 ·have q1':N<=n:=q1
  exact .inr ⟨n,g,q1,q2,q3,by rw [GH.a0f,if_neg (by omega)];exact q4,q5⟩
theorem OwnV.nil {N:Nat} {G:GH} (h:N<=G.next):OwnV N (.d (.k (.slice none 0 0))) [] G:=⟨.inl ⟨rfl,rfl⟩,h,fun _ _=>rfl⟩
theorem OwnV.of {N:Nat} {B:GH} (hB:B.next=N) {x:LV} {rows:List (List DV)} {G:GH} (h:VApp 68 6 B x rows G):OwnV N x rows G:=by
 subst hB
 exact ⟨h.is,h.nx,fun _ _=>rfl⟩
theorem b1a (rows:List (List DV)) (r:List DV):a1e (rows ++ [r])=a1e rows ++ r.map LV.d:=by simp [a1e]
def zeroE:List DV:=[.k (.int .i64 0),.k (.string ⟨#[]⟩),.k (.int .i64 0),.k (.int .i64 0),.k (.slice none 0 0),.k (.slice none 0 0)]
theorem d8w (p:Prog) (hp:formed p) (d:Nat) (hd:d < p.defs.length):AFun prog 77 [lv (a0h p),lvI d] (.tup [sl ((allE p.defs[d].exp).map rExp),lvI 0]):=by
 intro H
 have cc:=a4i (r:=none) (f:=77) (p:=kds [2] [8] [31])
 have ccR:∀ l,(cxF (some l) 77 (kds [2] [8] [31])).ok prog:=fun l=>a4i
 have hstr:=a8j hp
 obtain ⟨e,he⟩:∃ e,p.defs[d].exp=e:=⟨_,rfl⟩
 have hok:∀ x ∈ allE e,okE x:=fun x hx=>e3f e (he ▸ (e4m hp).1.2.2 _ (List.getElem_mem hd)) x hx
 have hal:(allE e).length<=60:=by rw [<- he];exact (a5z hp).len _ (List.getElem_mem hd)
 refine a0j.a3a (a4i (r:=none) (f:=77) (p:=kds [2] [8] [31])) func77 rfl call77 (by rw [ntmps77];simp) rfl fun hf hw=>?_
 have hh:=d5a p hstr hp d hd H
 have hnod:=b0r e
 simp [a0c] at hnod
 simp [ntmps77,results77,a0h] at hf |-
 refine AW.seq cc ?_
 simp
 refine AW.seq cc ?_
 simp
 refine EC.of hh (fun v H1 hR=>?_) (fun v H1 hR=>by obtain ⟨⟨_,q,_⟩,_⟩:=hR;cases q)
 obtain ⟨⟨n0,q,hn0,_⟩,hz1,hle1,hsame1⟩:=hR
 cases q
 simp
 refine AW.seq cc ?_
 simp
 refine AW.seq cc ?_
 simp [hd,List.getElem?_eq_getElem hd,rDef,he,a0c]
 refine EC.afun hnod ?_
 simp
 obtain ⟨b8,hb8⟩:∃ b8,H1.next=b8:=⟨_,rfl⟩
 obtain ⟨H2,hH2⟩:∃ H2,H1.add (.box [.d (.k (.slice none 0 0))])=H2:=⟨_,rfl⟩
 have n2:H2.next=b8+1:=by rw [<- hH2,GH.a0a,hb8]
 have oo:H2.obj b8=some (.box [.d (.k (.slice none 0 0))]):=by rw [<- hH2,GH.a0b,if_pos hb8.symm]
 have ol:∀ m,m < H.next->H2.obj m=H.obj m:=fun m hm=>by rw [<- hH2,GH.a0b,if_neg (by omega)];exact hsame1 m hm
 rw [hH2,hb8]
 refine AW.nbZ (fun hz2=>?_)
 simp only at hz2
 refine AWp.rangeFunc rfl rfl (f:=164) (first:=[]) (cap:=[.ip ((rExp e).map .d) 0]) (by simp [a4z,a0c]) (by simp [a4z])
  [(2,.ip ((a0h p).map .d) 0),(8,.gp b8 0)] (by simp [allL,a0h]) (by simp [allL,LV.nb,nbs,a0h,n2]) (by simp [nbs,LV.nb]) ?_
 simp only [LS.s_mk,List.nil_append,List.singleton_append]
 generalize hx:LP.mk _ _ _ _ _ _ _=x
 have hxf:x.f=77:=by rw [<- hx]
 have hxd:x.d=H2.next:=by rw [<- hx]
 obtain ⟨D,hD⟩:∃ D,H2.next=D:=⟨_,rfl⟩
 have hDn:((H2.add .dfr).add (x.go .ready none)).next=D+2:=by rw [GH.a0a,GH.a0a,hD]
 obtain ⟨J,hJ⟩:∃ J:Nat->GH->Prop,J=fun i G=>G.obj (D+2)=some (.box [b2m (D+1) (D+2)])/\G.obj (D+1)=some (x.go .ready none)/\G.obj D=some .dfr/\(∀ m,m < D->m ≠ b8->G.obj m=H2.obj m) /\
  ∃ y,G.obj b8=some (.box [y])/\OwnV (D+3) y (((allE e).take i).map rExp) G:=⟨_,rfl⟩
 have hI:IterG (D+1) (D+2) (a7i e) J:=by
  refine ⟨fun {i G} hj=>?_,fun {i G} hj=>?_,fun {i G r} hr hzG hj=>?_⟩
  ·rw [hJ] at hj;exact hj.1
  ·rw [hJ] at hj
   obtain ⟨_,_,_,_,y,_,q6⟩:=hj
   have:=q6.nx
   simp only at this
   omega
  ·rw [hJ] at hj
   obtain ⟨q0,q1,q2,q4,y,q5,q6⟩:=hj
   obtain ⟨e0,he0,rfl⟩:∃ e0,(allE e)[i]?=some e0/\r=lv (rExp e0):=by
    simp only [a7i,List.getElem?_map,Option.map_eq_some_iff] at hr
    obtain ⟨e0,h1,h2⟩:=hr
    exact ⟨e0,h1,h2.symm⟩
   have hil:i < (allE e).length:=(List.getElem?_eq_some_iff.1 he0).1
   have hcp:=c6u e0 (hok e0 (List.mem_of_getElem? he0))
   refine a2v.ofN (c:=fun l=>cxF (some l) 77 (kds [2] [8] [31])) ccR (fun l=>by simp [hxf]) q1 ⟨_,by rw [hxf];exact func77⟩ (by rw [<- hx];rfl) (by rw [<- hx];simp) fun hz l=>?_
   have xa:=(congrArg LP.asn hx).symm
   have xb:=(congrArg LP.body hx).symm
   have xe:=(congrArg LP.env hx).symm
   have xp:=(congrArg LP.ps hx).symm
   have xn:=(congrArg LP.nt hx).symm
   dsimp only at xa xb xe xp xn
   rw [xa,xb,xe,xp,xn]
   clear xa xb xe xp xn hx
   simp [putAll,a0c]
   refine ⟨q1,?_⟩
   generalize hob:x.go .busy none=ob
   obtain ⟨G3,hG3⟩:∃ G3,G.set (D+1) ob=G3:=⟨_,rfl⟩
   have c3:∀ m,m ≠ D+1->G3.obj m=G.obj m:=fun m hm=>by rw [<- hG3,GH.a0f,if_neg (by omega)]
   have oy:G3.obj (D+1)=some ob:=by rw [<- hG3,GH.a0n]
   have n3:G3.next=G.next:=by rw [<- hG3];rfl
   rw [hG3]
   have q63:OwnV (D+3) y (((allE e).take i).map rExp) G3:=by rw [<- hG3];exact q6.set (by omega) _
   have hgx:=q63.nx
   simp only at hgx
   have ob8:G3.obj b8=some (.box [y]):=by rw [c3 _ (by omega)];exact q5
   simp [a0c] at hcp
   refine AW.block (c:=cxF (some l) 77 (kds [2] [8] [31])) ?_
   refine AW.draw (ccR l) [(2,.n)] (.q 4<|.q 0<|.q 1<|.q 2<|.q 3<|.f<|.one 5<|.q 6<|.f (.cons 7 (.f<|.one 8<|.done) (.cons 8 (.f<|.one 7<|.done) (.nil)))) (by kernel_rfl) ?_
   have hr1:List.range' 0 1=[0]:=rfl
   simp [ob8,q63.plain.all,hr1]
   refine FC.afun hcp ?_
   obtain ⟨rows,hrows⟩:∃ rows,((allE e).take i).map rExp=rows:=⟨_,rfl⟩
   have hrl:rows.length=i:=by rw [<- hrows];simp;omega
   have hr6:∀ r ∈ rows,r.length=6:=fun r hr=>by rw [<- hrows] at hr;obtain ⟨_,_,rfl⟩:=List.mem_map.1 hr;simp
   rw [hrows] at q63
   have hlen:∀ X:S,True:=fun _=>trivial
   have hcase:=q63.is
   have happ:VApp 68 6 ⟨G3.obj,D+3⟩ y rows G3:=q63
   rcases hcase with ⟨k1,k2⟩ | ⟨nv,gv,k1,k2,k3,k4,k5⟩
   ·subst k2
    have hi0:i=0:=by rw [<- hrl,k1];rfl
    subst hi0
    simp
    refine APK.appV (ys:=[zeroE]) tyE64 rfl tyE68 (by simp) (by simp) happ (by simp [zeroE,a9g]) (by simp) hr6 (by simp [zeroE]) (by simp;omega) (by simp) fun x' G4 happ' hnx hsame=>?_
    obtain ⟨m4,g4,e1,e2,e3,e4,e5⟩:=happ'.is.resolve_left (fun q=>by simp at q)
    subst e3
    simp at e1
    have e1':D+3<=m4:=by omega
    have ob84:G4.obj b8=some (.box [.d (.k (.slice none 0 0))]):=by rw [happ'.ob b8 (show b8 < D+3 by omega)];exact ob8
    have hnx':G3.next<=G4.next:=hnx
    obtain ⟨Fl,hFl⟩:∃ Fl,a1e (rows ++ [zeroE])=Fl:=⟨_,rfl⟩
    have hr7:∀ r ∈ rows ++ [zeroE],r.length=6:=fun r hr=>by
     rcases List.mem_append.1 hr with q | q
     ·exact hr6 r q
     ·rw [List.mem_singleton.1 q];rfl
    have hFlen:Fl.length=0 * 6+6:=by
     rw [<- hFl,a6i hr7,List.length_append,hrl,List.length_singleton]
    have hput:Fl.take (0 * 6) ++ ((rExp e0).map LV.d) ++ Fl.drop (0 * 6+6)=a1e (rows ++ [rExp e0]):=by
     rw [List.drop_eq_nil_of_le (by omega),List.append_nil,<- hFl,b1a,b1a,List.take_left' (by rw [a6i (sz:=6) hr6,hrl])]
    rw [hFl] at e4
    have hm4:∀ o,(G4.set b8 o).obj m4=some (.vec 68 g4 6 Fl false):=fun o=>by rw [GH.a0f,if_neg (by omega)];exact e4
    have hm5:∀ o,(G4.set m4 o).obj b8=some (.box [.d (.k (.slice none 0 0))]):=fun o=>by rw [GH.a0f,if_neg (by omega)];exact ob84
    obtain ⟨C,hC⟩:∃ C,a1e (rows ++ [rExp e0])=C:=⟨_,rfl⟩
    rw [hC] at hput
    simp [a0c] at hput
    have hm4lt:m4 < G4.next:=e2
    have hfin:∀ G6:GH,G6.next=G4.next->G6.obj b8=some (.box [.vs m4 g4 6 0 (0+1)])->G6.obj m4=some (.vec 68 g4 6 C false)->(∀ m,m ≠ m4->m ≠ b8->G6.obj m=G4.obj m)->nbH G6 ->
      (∃ a b,G6.obj (D+1)=some (x.go a b))/\∃ H',Drop G (G6.set (D+1) (x.go .ready none)) H'/\G.next<=H'.next/\J (0+1) H':=fun G6 u1 u2 u3 u4 hz6=>by
     have v1:G6.obj (D+1)=some ob:=by rw [u4 _ (by omega) (by omega),happ'.ob _ (show D+1 < D+3 by omega)];exact oy
     refine ⟨⟨.busy,none,by rw [v1,hob]⟩,G6.set (D+1) (x.go .ready none),?_,by rw [GH.a0l,u1];omega,?_⟩
     ·exact (hz6.set (by omega) (GO.a3g (by omega) (hzG.nb _ _ q1))).drop (by rw [GH.a0l];omega)
     ·rw [hJ]
      refine ⟨?_,by rw [GH.a0n],?_,fun m hm hne=>?_,.vs m4 g4 6 0 (0+1),?_,?_⟩
      ·rw [GH.a0f,if_neg (by omega),u4 _ (by omega) (by omega),happ'.ob _ (show D+2 < D+3 by omega)]
       show G3.obj (D+2)=_
       rw [c3 _ (by omega)];exact q0
      ·rw [GH.a0f,if_neg (by omega),u4 _ (by omega) (by omega),happ'.ob _ (show D < D+3 by omega)]
       show G3.obj D=_
       rw [c3 _ (by omega)];exact q2
      ·rw [GH.a0f,if_neg (by omega),u4 _ (by omega) (by omega),happ'.ob _ (show m < D+3 by omega)]
       show G3.obj m=_
       rw [c3 _ (by omega)];exact q4 m hm hne
      ·rw [GH.a0f,if_neg (by omega)];exact u2
      ·have hrow2:((allE e).take (0+1)).map rExp=rows ++ [rExp e0]:=by
        rw [List.take_add_one,he0,List.map_append,hrows];rfl
       rw [hrow2]
       refine ⟨.inr ⟨m4,g4,by simp only;omega,by rw [GH.a0l,u1];exact hm4lt,by simp [hrl],?_,by simp⟩,by simp only [GH.a0l];omega,fun m hm=>rfl⟩
       rw [GH.a0f,if_neg (by omega),hC];exact u3
    simp [e4,hrl,ob84,hm4,hm5,hFlen]
    rw [hput]
    have hneq:m4 ≠ b8:=by omega
    have hcm:∀ X Y:GO,(G4.set b8 X).set m4 Y=(G4.set m4 Y).set b8 X:=fun X Y=>GH.b6q (Ne.symm hneq)
    have hend:=hfin ((G4.set m4 (.vec 68 g4 6 C false)).set b8 (.box [.vs m4 g4 6 0 (0+1)])) rfl GH.a0n (by rw [GH.a0f,if_neg hneq,GH.a0n]) (fun m h1 h2=>by rw [GH.a0f,if_neg h2,GH.a0f,if_neg h1])
    rw [hcm]
    try simp at hend
    exact ⟨⟨hm4lt,hend⟩,hm4lt,hend⟩
   ·subst k3
    simp
    refine APK.appV (ys:=[zeroE]) tyE64 rfl tyE68 (by simp) (by simp) happ (by simp [zeroE,a9g]) (by simp) hr6 (by simp [zeroE]) (by simp;omega) (by simp) fun x' G4 happ' hnx hsame=>?_
    obtain ⟨m4,g4,e1,e2,e3,e4,e5⟩:=happ'.is.resolve_left (fun q=>by simp at q)
    subst e3
    simp at e1
    have e1':D+3<=m4:=by omega
    have ob84:G4.obj b8=some (.box [.vs nv gv 6 0 rows.length]):=by rw [happ'.ob b8 (show b8 < D+3 by omega)];exact ob8
    have hnx':G3.next<=G4.next:=hnx
    obtain ⟨Fl,hFl⟩:∃ Fl,a1e (rows ++ [zeroE])=Fl:=⟨_,rfl⟩
    have hr7:∀ r ∈ rows ++ [zeroE],r.length=6:=fun r hr=>by
     rcases List.mem_append.1 hr with q | q
     ·exact hr6 r q
     ·rw [List.mem_singleton.1 q];rfl
    have hFlen:Fl.length=i * 6+6:=by
     rw [<- hFl,a6i hr7,List.length_append,hrl,List.length_singleton];omega
    have hput:Fl.take (i * 6) ++ ((rExp e0).map LV.d) ++ Fl.drop (i * 6+6)=a1e (rows ++ [rExp e0]):=by
     rw [List.drop_eq_nil_of_le (by omega),List.append_nil,<- hFl,b1a,b1a,List.take_left' (by rw [a6i (sz:=6) hr6,hrl])]
    rw [hFl] at e4
    have hm4:∀ o,(G4.set b8 o).obj m4=some (.vec 68 g4 6 Fl false):=fun o=>by rw [GH.a0f,if_neg (by omega)];exact e4
    have hm5:∀ o,(G4.set m4 o).obj b8=some (.box [.vs nv gv 6 0 rows.length]):=fun o=>by rw [GH.a0f,if_neg (by omega)];exact ob84
    obtain ⟨C,hC⟩:∃ C,a1e (rows ++ [rExp e0])=C:=⟨_,rfl⟩
    rw [hC] at hput
    simp [a0c] at hput
    have hm4lt:m4 < G4.next:=e2
    have hfin:∀ G6:GH,G6.next=G4.next->G6.obj b8=some (.box [.vs m4 g4 6 0 (i+1)])->G6.obj m4=some (.vec 68 g4 6 C false)->(∀ m,m ≠ m4->m ≠ b8->G6.obj m=G4.obj m)->nbH G6 ->
      (∃ a b,G6.obj (D+1)=some (x.go a b))/\∃ H',Drop G (G6.set (D+1) (x.go .ready none)) H'/\G.next<=H'.next/\J (i+1) H':=fun G6 u1 u2 u3 u4 hz6=>by
     have v1:G6.obj (D+1)=some ob:=by rw [u4 _ (by omega) (by omega),happ'.ob _ (show D+1 < D+3 by omega)];exact oy
     refine ⟨⟨.busy,none,by rw [v1,hob]⟩,G6.set (D+1) (x.go .ready none),?_,by rw [GH.a0l,u1];omega,?_⟩
     ·exact (hz6.set (by omega) (GO.a3g (by omega) (hzG.nb _ _ q1))).drop (by rw [GH.a0l];omega)
     ·rw [hJ]
      refine ⟨?_,by rw [GH.a0n],?_,fun m hm hne=>?_,.vs m4 g4 6 0 (i+1),?_,?_⟩
      ·rw [GH.a0f,if_neg (by omega),u4 _ (by omega) (by omega),happ'.ob _ (show D+2 < D+3 by omega)]
       show G3.obj (D+2)=_
       rw [c3 _ (by omega)];exact q0
      ·rw [GH.a0f,if_neg (by omega),u4 _ (by omega) (by omega),happ'.ob _ (show D < D+3 by omega)]
       show G3.obj D=_
       rw [c3 _ (by omega)];exact q2
      ·rw [GH.a0f,if_neg (by omega),u4 _ (by omega) (by omega),happ'.ob _ (show m < D+3 by omega)]
       show G3.obj m=_
       rw [c3 _ (by omega)];exact q4 m hm hne
      ·rw [GH.a0f,if_neg (by omega)];exact u2
      ·have hrow2:((allE e).take (i+1)).map rExp=rows ++ [rExp e0]:=by
        rw [List.take_add_one,he0,List.map_append,hrows];rfl
       rw [hrow2]
       refine ⟨.inr ⟨m4,g4,by simp only;omega,by rw [GH.a0l,u1];exact hm4lt,by simp [hrl],?_,by simp⟩,by simp only [GH.a0l];omega,fun m hm=>rfl⟩
       rw [GH.a0f,if_neg (by omega),hC];exact u3
    simp [e4,hrl,ob84,hm4,hm5,hFlen]
    rw [hput]
    have hneq:m4 ≠ b8:=by omega
    have hcm:∀ X Y:GO,(G4.set b8 X).set m4 Y=(G4.set m4 Y).set b8 X:=fun X Y=>GH.b6q (Ne.symm hneq)
    have hend:=hfin ((G4.set m4 (.vec 68 g4 6 C false)).set b8 (.box [.vs m4 g4 6 0 (i+1)])) rfl GH.a0n (by rw [GH.a0f,if_neg hneq,GH.a0n]) (fun m h1 h2=>by rw [GH.a0f,if_neg h2,GH.a0f,if_neg h1])
    rw [hcm]
    try simp at hend
    exact ⟨by omega,⟨hm4lt,hend⟩,hm4lt,hend⟩
 have hj0:J 0 (((H2.add .dfr).add (x.go .ready none)).add (.box [b2m (D+1) (D+2)])):=by
  rw [hJ]
  refine ⟨?_,?_,?_,fun m hm hne=>?_,.d (.k (.slice none 0 0)),?_,?_⟩
  ·rw [GH.a0b,hDn,if_pos rfl]
  ·rw [GH.a0b,hDn,if_neg (by omega),GH.a0b,GH.a0a,hD,if_pos rfl]
  ·rw [GH.a0b,hDn,if_neg (by omega),GH.a0b,GH.a0a,hD,if_neg (by omega),GH.a0b,hD,if_pos rfl]
  ·rw [GH.a0b,hDn,if_neg (by omega),GH.a0b,GH.a0a,hD,if_neg (by omega),GH.a0b,hD,if_neg (by omega)]
  ·rw [GH.a0b,hDn,if_neg (by omega),GH.a0b,GH.a0a,hD,if_neg (by omega),GH.a0b,hD,if_neg (by omega)];exact oo
  ·exact OwnV.nil (by rw [GH.a0a,hDn];omega)
 have hkw:=d9y (n:=D+1) (e:=e) (J:=J) ((H2.add .dfr).add (x.go .ready none)) (by rw [hDn];exact hI) (by rw [hDn];omega) (by rw [hDn];exact hj0)
 rw [hD]
 refine hkw.mono fun ce H3 hR=>?_
 obtain ⟨⟨v,hv⟩,hle,hj⟩:=hR
 subst hv
 rw [hJ] at hj
 obtain ⟨q0,q1,q2,q4,y,q5,q6⟩:=hj
 refine ⟨.ready,none,q1,by simp,?_⟩
 simp [c8s,hxd]
 rw [List.take_length] at q6
 have hne:(allE e).map rExp ≠ []:=by
  obtain ⟨op,name,n,fold,a0k,kids⟩:=e
  simp [allE]
 obtain ⟨nv,gv,k1,k2,k3,k4,k5⟩:=q6.is.resolve_left (fun q=>hne q.1)
 simp only at k1
 subst k3
 obtain ⟨H4,hH4⟩:∃ H4,H3.set (D+1) (x.go .exhausted none)=H4:=⟨_,rfl⟩
 have n4:H4.next=H3.next:=by rw [<- hH4];rfl
 have o4:∀ m,m ≠ D+1->H4.obj m=H3.obj m:=fun m hm=>by rw [<- hH4,GH.a0f,if_neg hm]
 rw [hH4]
 have ov4:H4.obj nv=some (.vec 68 gv 6 (a1e ((allE e).map rExp)) false):=by rw [o4 _ (by omega)];exact k4
 have ob4:H4.obj b8=some (.box [.vs nv gv 6 0 ((allE e).map rExp).length]):=by rw [o4 _ (by omega)];exact q5
 have od4:H4.obj D=some .dfr:=by rw [o4 _ (by omega)];exact q2
 have ol4:∀ m,m < H.next->H4.obj m=H.obj m:=fun m hm=>by rw [o4 _ (by omega),q4 m (by omega) (by omega)];exact ol m hm
 refine AW.thaw (n:=nv) (g:=gv) (sz:=6) (e:=68) (ex:=false) ((allE e).map rExp) ov4 rfl (fun r hr=>by obtain ⟨_,_,rfl⟩:=List.mem_map.1 hr;simp) ?_
 refine AW.ev cc ?_
 have hb8n:b8 ≠ nv:=by omega
 simp [ob4,hb8n]
 refine fun _=>⟨⟨by omega,.dfr,by rw [hD];exact od4,rfl⟩,a0m (by simp only;omega) (fun m hm=>?_) hw.none,?_⟩
 ·simp only [a7e]
  rw [if_neg (by omega)]
  exact a9e hw (show H.next<=nv by omega) (fun k hk=>ol4 k hk) hm
 ·rw [he]
  exact List.take_of_length_le (by simp)
end Go.Aft
end
section
set_option maxRecDepth 20000
namespace Go.Aft
open Go.Proofs.Tryz
theorem e0h (p:Prog) (hs:∀ s ∈ p.srcs ++ a0d p,a2b s) (l:List Event) (d:Nat) (hd:d < p.defs.length) (node:Nat) (hn:node < (allE p.defs[d].exp).length) (ha:askedM p l=true) {defs:List Bag} (hk:knownM p l=some defs) (hdl:defs.length=p.defs.length) (hdok:∀ b ∈ defs,a1u b) (hxo:b5j p (allE p.defs[d].exp)[node])
  {x:Item} {t:List Item} (hb:expM p ⟨c0p p l,defs⟩ 200 (allE p.defs[d].exp)[node]=some (x :: t)) (htl:t.length<=1000):AFun prog 30 [lv (a0h p),sl (l.map a0t),lvI d,lvI node] (.tup [bagL (x :: t),lvI 0]):=by
 intro H
 have cc:=a0g (p:=kds [4] [] [])
 refine a0j.a3a (a0g (p:=kds [4] [] [])) func30 rfl call30 (by rw [ntmps30];simp) rfl fun hf hw=>?_
 have h1:=b4r p hs l
 obtain ⟨hp,hl,hi⟩:=b3w ha
 have hfb:=b6x hp
 have hkn:=c2n p hs hp (by have:=hfb.s1;omega) (by have:=hfb.s4;omega) (a5z hp) hfb.dif (b0z hp) l hl hi H
 have hpa:=d8w p hp d hd
 obtain ⟨L,hL⟩:∃ L,allE p.defs[d].exp=L:=⟨_,rfl⟩
 obtain ⟨e,he⟩:∃ e,(allE p.defs[d].exp)[node]=e:=⟨_,rfl⟩
 rw [he] at hxo hb
 simp only [hL] at hpa hn he
 rw [ha] at h1
 have hcl:=e6g x t htl
 simp [a0h] at h1 hkn hpa hcl
 simp [ntmps30,results30,a0h] at hf |-
 refine AW.seq cc ?_
 simp
 refine AW.seq cc ?_
 simp
 refine EC.afun h1 ?_
 have hd1:¬ ((p.defs.length:Int)<=d):=by omega
 have hd2:¬ ((d:Int) < 0):=by omega
 simp [hd1,hd2]
 refine AW.seq cc ?_
 simp
 refine EC.afun hpa ?_
 simp
 have hn1:¬ ((L.length:Int)<=node):=by omega
 have hn2:¬ ((node:Int) < 0):=by omega
 refine AW.seq cc ?_
 simp [hn1,hn2]
 refine AW.seq cc ?_
 simp
 refine EC.of hkn (fun v H2 hR=>?_) (fun v H2 hR=>by
  unfold b4b at hR
  rw [hk] at hR
  obtain ⟨_,_,_,_,_,q,_⟩:=hR;cases q)
 unfold b4b at hR
 rw [hk] at hR
 obtain ⟨n,ms,mn,mv,ma,q1,q2,hW,q4,q5,q6⟩:=hR
 cases q1
 have hsok:∀ b ∈ c0p p l,a1u b:=fun b hb=>by
  obtain ⟨i,_,rfl⟩:=List.mem_map.1 hb
  exact d1g hl hi (i:Nat)
 have hex:=b7b (W:=⟨c0p p l,defs⟩) hsok hdok (top:=200) (Int.le_refl _) _ e (Nat.lt_succ_self _) hxo H2 hW
 rw [hb] at hex
 simp [a0c] at hex
 simp
 refine AW.ev cc ?_
 have hLe:L[node]?=some e:=by rw [List.getElem?_eq_getElem hn,he]
 have ln:n < H2.next:=q6.lt hW.wld.ob
 simp [hn,he,a0c]
 refine ⟨ln,EC.of hex (fun v H3 hR=>?_) (fun v H3 hR=>by cases hR.2)⟩
 obtain ⟨hE,hv⟩:=hR
 cases hv
 rw [hE]
 simp [bagL]
 refine EC.afun hcl ?_
 simp
 exact fun hz=>⟨a0m q4 q5 hw.none,rfl⟩
section
variable {p:Prog} {S:List Bag} (hS:∀ b ∈ S,a1u b) (he:∀ (d:Nat) (h:d < p.defs.length),b5j p p.defs[d].exp)
include hS he
theorem d5o {T:Int} (hT:T<=200):∀ (g:List Nat),(∀ d ∈ g,d < p.defs.length)->∀ (defs D:List Bag),c4t p S T g defs=some D->(∀ b ∈ defs,a1u b)->D.length=defs.length/\∀ b ∈ D,a1u b
 | [],_,defs,D,h,hd=>by rw [c4t] at h;cases h;exact ⟨rfl,hd⟩
 | d :: g,hg,defs,D,h,hd=>by
  rw [c4t] at h
  split at h
  ·cases h
  ·rename_i defs1 h1
   rw [f2h] at h1
   split at h1
   ·cases h1
   ·rename_i b hb
    have e1:defs1=defs.set d b:=(Option.some.inj h1).symm
    subst e1
    have hdl:=hg d (List.mem_cons_self ..)
    have hb':expM p ⟨S,defs⟩ T p.defs[d].exp=some b:=by
     have:=c5s hdl
     unfold c5t at this
     rw [<- this];exact hb
    have hbok:a1u b:=b4y (W:=⟨S,defs⟩) hS hd hT _ _ (Nat.lt_succ_self _) (he d hdl) b hb'
    have ih:=d5o hT g (fun k hk=>hg k (List.mem_cons_of_mem _ hk)) _ D h fun c hc=>by
     rcases List.mem_or_eq_of_mem_set hc with q | q
     ·exact hd c q
     ·rw [q];exact hbok
    exact ⟨by rw [ih.1,List.length_set],ih.2⟩
theorem d4w {far:Int} {g:List Nat} (hg:∀ d ∈ g,d < p.defs.length):∀ (f:Nat) (top:Int),top<=200->∀ (defs D:List Bag),c6q p S far g f top defs=some D->(∀ b ∈ defs,a1u b)->D.length=defs.length/\∀ b ∈ D,a1u b
 | 0,_,_,defs,D,h,hd=>by rw [c6q] at h;cases h;exact ⟨rfl,hd⟩
 | f+1,top,ht,defs,D,h,hd=>by
  rw [c6q] at h
  split at h
  ·cases h
  ·rename_i d1 h1
   have hp:=d5o hS he ht g hg defs d1 h1 hd
   split at h
   ·cases h;exact hp
   ·have hm:minI (top+far) 200<=200:=by unfold minI;split <;> omega
    have ih:=d4w hg f _ hm d1 D h hp.2
    exact ⟨ih.1.trans hp.1,ih.2⟩
theorem c3a:∀ (gs:List (List Nat)),(∀ g ∈ gs,∀ d ∈ g,d < p.defs.length)->∀ (defs D:List Bag),a6v p S gs defs=some D->(∀ b ∈ defs,a1u b)->D.length=defs.length/\∀ b ∈ D,a1u b
 | [],_,defs,D,h,hd=>by rw [a6v] at h;cases h;exact ⟨rfl,hd⟩
 | g :: gs,hg,defs,D,h,hd=>by
  rw [a6v] at h
  split at h
  ·cases h
  ·rename_i d1 h1
   have hm:minI (farM p g - 1) 200<=200:=by unfold minI;split <;> omega
   have hp:=d4w hS he (hg g (List.mem_cons_self ..)) 202 _ hm defs d1 h1 hd
   have ih:=c3a gs (fun g' hg'=>hg g' (List.mem_cons_of_mem _ hg')) d1 D h hp.2
   exact ⟨ih.1.trans hp.1,ih.2⟩
end
theorem e8s {p:Prog} {l:List Event} (ha:askedM p l=true) {defs:List Bag} (h:knownM p l=some defs):defs.length=p.defs.length/\∀ b ∈ defs,a1u b:=by
 obtain ⟨hp,hl,hi⟩:=b3w ha
 have hgi:=(b2h (p:=p) p.defs.length [] (fun x hx=>absurd hx List.not_mem_nil)).1
 have:=c3a (p:=p) (S:=c0p p l) (fun b hb=>by
  obtain ⟨i,_,rfl⟩:=List.mem_map.1 hb
  exact d1g hl hi (i:Nat)) (b0z hp) (b0c p.defs.length (pathB p)) (fun g hg d hd=>(hgi g hg).1.lt hd) _ defs h fun b hb=>by rw [List.eq_of_mem_replicate hb];exact ⟨.nil,by simp,by simp⟩
 exact ⟨by rw [this.1];simp,this.2⟩
theorem b3o:askedM exQ exE=true:=by
 have h1:decide (exE.length<=60)=true:=by decide
 have h2:b9o exE=true:=by decide +kernel
 have h3:a4x (exE.map evN) exQ.srcs.length=true:=by decide +kernel
 have h4:=a7q
 simp [askedM,h4,h2,h3]
 decide
def exCalc:Calc:=.mk 7 0 [.mk 5 0 [],.mk 2 0 []]
theorem d7c:mAsk exCalc ⟨10,1,5⟩ 7/\cVal ⟨10,1,5⟩ 7 exCalc = -3:=by decide +kernel
theorem e9l:b6m 2 [⟨⟨10,1,5⟩,3⟩]=.tup [lvI 15,lvI 0]:=by
 have h1:a8f [⟨⟨10,1,5⟩,3⟩]=true:=by decide +kernel
 have h2:b3l 2 [⟨⟨10,1,5⟩,3⟩]=15:=by decide +kernel
 unfold b6m
 rw [if_pos ⟨by omega,by omega,h1⟩,if_neg (by simp),h2]
theorem e5b:b6m 2 []=.tup [lvI 0,lvI 5]:=by
 have h1:a8f []=true:=by decide +kernel
 unfold b6m
 rw [if_pos ⟨by omega,by omega,h1⟩,if_pos rfl]
end Go.Aft
end
section
set_option maxRecDepth 20000
namespace Go.Aft
open Go.Proofs.Tryz
theorem f3s:allE exQ.defs[1].exp=exQ.defs[1].exp :: (allE qSums ++ a0y [.mk 3 nmB 3 0 [] []]):=rfl
theorem f3n:∀ x ∈ allE qSums,x ∈ allE exQ.defs[1].exp:=fun x hx=>by
 rw [f3s]
 exact List.mem_cons_of_mem _ (List.mem_append_left _ hx)
theorem f1t:1 < (allE exQ.defs[1].exp).length:=by decide +kernel
theorem f1u:(allE (exQ.defs[1]'(by decide)).exp)[1]'f1t=qSums:=rfl
theorem e9m {defs:List Bag} (hk:knownM exQ exE=some defs) (h0:defs.getD 0 []=exA):AFun prog 30 [lv (a0h exQ),sl (exE.map a0t),lvI 1,lvI 1] (.tup [bagL [⟨⟨10,1,5⟩,1⟩,⟨⟨14,1,12⟩,1⟩],lvI 0]):=by
 have hok:=e8s b3o hk
 exact e0h exQ (a8j a7q) exE 1 (by decide) 1 f1t b3o hk hok.1 hok.2 (by rw [f1u];exact fun x hx=>b0z a7q 1 (by decide) x (f3n x hx)) (by rw [f1u];exact e9k _ h0) (by decide)
theorem AFun.nzA {P:Program} {f:FuncId} {args:List LV} {v:LV} (h:AFun P f (nzs args) v):AFun P f args v:=fun H=>⟨(h H).1,fun G w vs h1 h2 h3=>(h H).2 G w vs h1 h2 (d8d _ _ h3)⟩
theorem e3w:AFun prog 17 [] (.d (.k (.bool true))):=by
 have cc:=a6j (p:=kds [] [] [])
 refine AFun.body (a6j (p:=kds [] [] [])) func17 rfl call17 (by rw [ntmps17];simp) rfl fun hf H=>?_
 have hs:=a8j a7q
 obtain ⟨b,hk,hbl,hb1⟩:=f3r
 have e1:=f3f
 have e2:=f3g
 have e3:=f3c exQ hs exE
 have e4:=c2p exQ hs
 have e5:=c8k exQ hs exE 1
 have e6:=e9m hk rfl
 have e7:=e3r exCalc ⟨10,1,5⟩ 7
 have e8:=c8l 2 [⟨⟨10,1,5⟩,3⟩]
 have e9:=c8l 2 []
 have v3:ofMeanV exQ exE=.tup [sl ([[⟨⟨10,1,5⟩,1⟩,⟨⟨14,1,7⟩,1⟩],b,[⟨⟨14,1,7⟩,1⟩]].map rBag),lvI 0]:=by
  unfold ofMeanV
  rw [if_pos b3o,hk]
 have v4:orderV exQ=.tup [sl ([[0],[1],[2]].map rT),lvI 0]:=by
  unfold orderV
  rw [if_pos a7q,c3e]
 have v5:saysV exQ exE 1=.tup [bagL [⟨⟨11,1,2⟩,1⟩],lvI 0]:=by
  unfold saysV
  rw [if_pos ⟨b3o,by omega,by decide⟩,e9j]
 have v7:(if mAsk exCalc ⟨10,1,5⟩ 7 then LV.tup [lvI (cVal ⟨10,1,5⟩ 7 exCalc),lvI 0] else .tup [lvI 0,lvI 2])=.tup [lvI (-3),lvI 0]:=by
  rw [if_pos d7c.1,d7c.2]
 rw [v3] at e3
 rw [v4] at e4
 rw [v5] at e5
 rw [v7] at e7
 rw [e9l] at e8
 rw [e5b] at e9
 obtain ⟨x,y,hxy⟩:∃ x y,lv (a0h exQ)=.agg [.d x,.d y]:=⟨_,_,rfl⟩
 obtain ⟨E1,hE1⟩:∃ E1,exE.map a0t=E1:=⟨_,rfl⟩
 have hEl:0 < E1.length:=by rw [<- hE1];decide
 have hE0:E1[0]=a0t ⟨0,1,⟨10,1,5⟩⟩:=by subst hE1;rfl
 rw [hxy] at e1 e3 e4 e5 e6
 rw [hE1] at e2 e3 e5 e6
 simp [exCalc,a1h,b2y,rRec] at e7
 simp [a0i] at e8
 simp at e9
 simp [bagL,a0i] at e5 e6
 have hr1:List.range' 0 1=[0]:=rfl
 have hr2:List.range' 0 2=[0,1]:=rfl
 simp [ntmps17,results17]
 refine EC.afun e1 ?_
 simp
 refine EC.afun e2 ?_
 simp
 refine EC.afun e3 ?_
 simp
 refine EC.afun e4 ?_
 simp
 refine EC.afun e5 ?_
 simp
 refine EC.afun e6 ?_
 have e7':AFun prog 13 [.agg [lvI 7,lvI 0,.d (.sl [[.k (.int .i64 5),.k (.int .i64 0),.k (.slice none 0 0)],[.k (.int .i64 2),.k (.int .i64 0),.k (.slice none 0 0)]])],.agg [lvI 10,lvI 1,lvI 5],lvI 7] (.tup [lvI (-3),lvI 0]):=AFun.nzA (by simpa [nzs,LV.nz,DV.nz,nzR,nzC] using e7)
 simp [hr2,hE0,a0t,rRec,hEl]
 refine EC.afun e7' ?_
 simp [hr1,hE0,a0t,rRec,hEl]
 refine EC.afun e8 ?_
 simp
 have e9':AFun prog 15 [lvI 2,.d (.k (.slice none 0 0))] (.tup [lvI 0,lvI 5]):=AFun.nzA (by simpa [nzs,LV.nz,DV.nz,nzR,nzC] using e9)
 refine EC.afun e9' ?_
 simp
 refine AW.draw cc [(3,.n),(4,.n),(6,.n),(11,.n),(13,.n),(17,.n),(19,.n),(23,.n),(24,.n),(26,.n),(41,.n)] (.q 0<|.q 1<|.q 3<|.q 4<|.q 5<|.q 2<|.q 6<|.q 7<|.q 8<|.q 9<|.q 11<|.q 12<|.q 10<|.q 13<|.q 14<|.q 15<|.q 16<|.q 17<|.q 18<|.q 19<|.q 20<|.q 21<|.q 22<|.q 23<|.q 24<|.q 25<|.q 26<|.q 27<|.q 28<|.q 29<|.q 30<|.q 31<|.q 32<|.q 33<|.q 34<|.q 35<|.q 36<|.q 37<|.q 41<|.q 38<|.q 39<|.q 40<|.q 42<|.q 43<|.q 44<|.done) (by kernel_rfl) ?_
 have i1:=b3f 10 1 5
 have i2:=b3f 14 1 7
 have i3:=b3f 11 1 2
 have i4:=b3f 14 1 12
 have i5:=b3f 13 1 5
 simp [a0i] at i1 i2 i3 i4 i5
 have s1:=b3u [⟨⟨10,1,5⟩,1⟩,⟨⟨14,1,7⟩,1⟩] [⟨⟨10,1,5⟩,1⟩,⟨⟨14,1,7⟩,1⟩]
 have s2:=b3u [⟨⟨14,1,7⟩,1⟩] [⟨⟨14,1,7⟩,1⟩]
 have s3:=b3u [⟨⟨11,1,2⟩,1⟩] [⟨⟨11,1,2⟩,1⟩]
 have s4:=b3u [⟨⟨10,1,5⟩,1⟩,⟨⟨14,1,12⟩,1⟩] [⟨⟨10,1,5⟩,1⟩,⟨⟨14,1,12⟩,1⟩]
 simp [a0i] at s1 s2 s3 s4
 have hb1':b[1]'(by omega) = ⟨⟨13,1,5⟩,1⟩:=by rw [List.getElem?_eq_getElem (show 1 < b.length by omega)] at hb1;exact Option.some.inj hb1
 have hbl1:1 < b.length:=by omega
 simp [hr1,hr2,rBag,a0i]
 refine FC.afun i1 ?_
 simp
 refine FC.afun i2 ?_
 simp [hr1,hr2,rBag,a0i]
 refine FC.afun s1 ?_
 simp
 refine FCg.afun (fun _=>i2) ?_
 simp [hr1,hr2,rBag,a0i]
 refine FCg.afun (fun _=>s2) ?_
 simp
 refine FCg.afun (fun _=>i3) ?_
 simp [hr1,hr2,rBag,a0i]
 refine FCg.afun (fun _=>s3) ?_
 simp
 refine FCg.afun (fun _=>i1) ?_
 simp
 refine FCg.afun (fun _=>i4) ?_
 simp [hr1,hr2,rBag,a0i]
 refine FCg.afun (fun _=>s4) ?_
 have hbl2:(4:Int) < b.length:=by omega
 simp [hbl,hbl1,hbl2,hb1',a0i]
 refine FCg.afun (fun _=>i5) ?_
 simp [hbl,hbl1,hbl2,hb1',a0i]
 omega
end Go.Aft
end
