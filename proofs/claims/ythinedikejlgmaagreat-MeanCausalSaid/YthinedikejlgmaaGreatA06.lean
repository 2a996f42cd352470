import Derived.Test.YthinedikejlgmaaGreatA05
import Derived.Laws.OwnMore
set_option linter.all false
namespace Go.Aft
section
variable {E:tL} {G:Gh} {lm:Nat->Option Nat} {L:Nat->Option (List LV)} {H:GH} {w:World}
def lS(G:Gh)(clr:Bool)(n b:Nat)(v:Value)(g:Nat):Gh where
 M:=G.M
 own:=λx=>if x=b then .nm n else if clr=true/\G.own x=.nm n then .none else G.own x
 nm:=G.nm
 av:=eL G.av n v
 qY:=eL G.qY n g
def qJ(G:Gh)(nx:Nat)(w:World)(b C:Nat)(e:TypeId)(sz:Nat)(cells:List LV)(ex:Bool):Prop:=
 0<sz/\C<=maxLen/\∃vs rest:List Value,w.heap[b]?=some (.cells (vs++rest).toArray e (0,0))/\(∀v∈vs++rest,v.oneCell'=true)/\bH G nx ix cells vs/\(vs++rest).length=C*sz/\(ex=true->rest=[])/\sz∣cells.length
theorem qJ.OR{G0:Gh}{nx nx' n b C sz g:Nat}{w:World}{e:TypeId}{cells:List LV}{ex:Bool}(h:qJ G0 nx w b C e sz cells ex)(hn:nx<=nx')(hle:G0.le nx G)(htip:G.qY n=g)(tq:G.av n=.slice (some ⟨b,sz,none⟩) 0 C)(hown:G.own b=.nm n):OR G nx' w n (.vec e g sz cells ex):=by
 obtain⟨h1,h2,vs,rest,h3,h4,h5,h6⟩:=h;exact⟨htip,h1,b,C,vs,rest,tq,h2,hown,h3,h4,ca hn hle (λ_ _ e=>e) _ _ h5,h6⟩
theorem MR.FL(h:MR G lm L H w){w':World}(hg:jQ w w' none){C sz:Nat}{e:TypeId}{cells:List LV}{ex:Bool}(hv:qJ G H.next w' w.heap.size C e sz cells ex):
  ∃G',MR G' lm L (H.add (.vec e 0 sz cells ex)) w'/\G.le H.next G'/\(Ext E G H w->Ext E G' (H.add (.vec e 0 sz cells ex)) w')/\G'.qY H.next=0/\G'.av H.next=.slice (some ⟨w.heap.size,sz,none⟩) 0 C:=by
 let G':=lS G false H.next w.heap.size (.slice (some ⟨w.heap.size,sz,none⟩) 0 C) 0
 have hle:G.le H.next G':=⟨Mem.le_refl _,λ_ _=>rfl,λx hx=>by
  have:x≠H.next:=by omega
  simp only[G',lS];rw[aX _ _ this,aX _ _ this];exact⟨Nat.le_refl _,λ_=>rfl⟩⟩
 have hsz:=hg.size;have hold:∀b,b<w.heap.size->w'.heap[b]?=w.heap[b]?:=λb hb=>hg.block b hb (by simp)
 have hown:∀b,b<w.heap.size->G'.own b=G.own b:=λb hb=>by
  have:b≠w.heap.size:=by omega
  simp[G',lS,if_neg this]
 have hlt':w.heap.size<w'.heap.size:=by obtain⟨_,_,vs,rest,h3,_⟩:=hv;exact eN h3
 refine⟨G',⟨λb o v hv=>?_,λb o v hv=>?_,λb hb=>?_,h.C3,?_,λn o' hn=>?_⟩,hle,λhx=>?_,by simp[G',lS],by simp[G',lS]⟩
 ·have hc:=h.qC b o v hv;rw[eZ (hold b (iA hc))];exact hc
 ·have hlt:=iA (h.qC b o v hv);rw[hown b hlt];rcases h.dF b o v hv with q|⟨n,e,sz,m,q1,q2,q3⟩
  ·exact .inl q
  ·have hlt:=(h.iC n _ q2).1;refine .inr (⟨n,e,sz,m,q1,?_,?_⟩)
   ·rw[GH.ax,if_neg (by omega)];exact q2
   ·simp only[G',lS];rw[aX _ _ (by omega)];exact q3
 ·refine⟨?_,(h.fresh b (by omega)).2⟩
  have:b≠w.heap.size:=by omega
  simp only[G',lS,if_neg this,Bool.false_eq_true,false_and,if_false];exact(h.fresh b (by omega)).1
 ·exact h.jD (Nat.le_succ _) hle λb k hb=>by
   have hlt:=jB h (b:=b) (by rw[hb];simp)
   exact⟨(hown b hlt).trans hb,hold b hlt⟩
 ·rw[GH.ax]at hn;by_cases e:n=H.next
  ·subst e;simp at hn;subst hn;exact⟨Nat.lt_succ_self _,hv.OR (Nat.le_succ _) hle (by simp[G',lS]) (by simp[G',lS]) (by simp[G',lS])⟩
  ·rw[if_neg e]at hn;obtain⟨h1,h2⟩:=h.iC n o' hn;refine⟨Nat.lt_succ_of_lt h1,fM (Nat.le_succ _) h1 hle h2 (by simp only[G',lS];rw[aX _ _ e,aX _ _ e];exact⟨rfl,rfl⟩) λb hb=>?_⟩
   have hlt:=jB h (b:=b) (by rw[hb];simp)
   exact⟨(hown b hlt).trans hb,hold b hlt,λ_ _ q=>q⟩
 ·exact Ext.trans hx ⟨hle,Nat.le_succ _,hg.os,hg.tape,hg.output,hg.drawn,hg.size,λb hb _=>hold b hb,λb hb=>.inl (hown b hb)⟩
theorem MR.WE(h:MR G lm L H w){n g g' sz b0 b' C C':Nat}{e e':TypeId}{cells0 cells:List LV}{ex ex':Bool}(hn:H.obj n=some (.vec e g sz cells0 ex))(tq:G.av n=.slice (some ⟨b0,sz,none⟩) 0 C)
  {w':World} (hgt:g<g') (qE:(b'=b0/\jQ w w' (some b0))\/ (b'=w.heap.size/\jQ w w' none)) (hv:qJ G H.next w' b' C' e' sz cells ex'):
  ∃G',MR G' lm L (H.set n (.vec e' g' sz cells ex')) w'/\G.le H.next G'/\(Ext E G H w->Ext E G' (H.set n (.vec e' g' sz cells ex')) w')/\G'.qY n=g'/\G'.av n=.slice (some ⟨b',sz,none⟩) 0 C':=by
 let G':=lS G true n b' (.slice (some ⟨b',sz,none⟩) 0 C') g'
 obtain⟨hlt,htip,Br,b,C1,vs0,rest0,q1,q0,qo,q2,q5,q3,q4,q6,q7⟩:=(⟨(h.iC n _ hn).1,(h.iC n _ hn).2⟩:n<H.next/\OR G H.next w n (.vec e g sz cells0 ex));have hbb:b=b0:=by rw[q1]at tq;cases tq;rfl
 subst hbb;have bM6:=eN q2;have hle:G.le H.next G':=⟨Mem.le_refl _,λ_ _=>rfl,λx hx=>by
  simp only[G',lS];by_cases e:x=n
  ·subst e;simp;omega
  ·rw[aX _ _ e,aX _ _ e];exact⟨Nat.le_refl _,λ_=>rfl⟩⟩
 have KU:w.heap.size<=w'.heap.size/\w'.os=w.os/\w'.tape=w.tape/\w'.output=w.output/\w.drawn<=w'.drawn/\∀x,x<w.heap.size->x≠b->w'.heap[x]?=w.heap[x]?:=by
  rcases qE with⟨_,q⟩|⟨_,q⟩
  ·exact⟨q.size,q.os,q.tape,q.output,q.drawn,λx hx hne=>q.block x hx (by simp[hne])⟩
  ·exact⟨q.size,q.os,q.tape,q.output,q.drawn,λx hx hne=>q.block x hx (by simp)⟩
 obtain⟨hsz,p1,p2,p3,p4,hold⟩:=KU;have hb':b'=b\/ b'=w.heap.size:=by rcases qE with⟨q,_⟩|⟨q,_⟩<;>simp[q]
 have hlt':b'<w'.heap.size:=by obtain⟨_,_,vs,rest,h3,_⟩:=hv;exact eN h3
 have PJ:∀x o v,G.M x o=some v->G.own x≠ .nm n:=λx o v hv q=>by
  rcases h.dF x o v hv with q'|⟨n',e,sz,m,q1,q2,q3⟩
  ·rw[q]at q';cases q'
  ·rw[q]at q1;cases q1;rw[hn]at q2;cases q2
 have Bx:∀x,x<w.heap.size->G.own x≠ .nm n->G'.own x=G.own x:=λx hx hne=>by
  have:x≠b':=by rcases hb' with q|q<;>subst q<;>intro q'<;>subst q'<;>first|exact hne qo|omega
  simp only[G',lS,if_neg this,hne,and_false,if_false]
 have Wm:∀x,G.own x≠ .nm n->x≠b:=λx hx e=>hx (by rw[e];exact qo)
 refine⟨G',⟨λx o v hv=>?_,λx o v hv=>?_,λx hx=>?_,h.C3,?_,λj o' hj=>?_⟩,hle,λhx=>?_,by simp[G',lS],by simp[G',lS]⟩
 ·have hc:=h.qC x o v hv;rw[eZ (hold x (iA hc) (Wm x (PJ x o v hv)))];exact hc
 ·have ug:=iA (h.qC x o v hv);rw[Bx x ug (PJ x o v hv)];rcases h.dF x o v hv with q|⟨n',e',sz',m,r1,r2,r3⟩
  ·exact .inl q
  ·have Wk:n'≠n:=λe=>by subst e;rw[hn]at r2;cases r2
   refine .inr (⟨n',e',sz',m,r1,?_,?_⟩)
   ·rw[GH.ay,if_neg Wk];exact r2
   ·simp only[G',lS];rw[aX _ _ Wk];exact r3
 ·have hx2:w.heap.size<=x:=by omega
  have:x≠b':=by omega
  have hf:=h.fresh x hx2;refine⟨?_,hf.2⟩;simp only[G',lS,if_neg this,hf.1];simp
 ·exact h.jD (Nat.le_refl _) hle λx k hb=>by
   have ug:=jB h (b:=x) (by rw[hb];simp)
   have hne:G.own x≠ .nm n:=by rw[hb];simp
   exact⟨(Bx x ug hne).trans hb,hold x ug (Wm x hne)⟩
 ·rw[GH.ay]at hj;by_cases e1:j=n
  ·subst e1;simp at hj;subst hj;exact⟨hlt,hv.OR (Nat.le_refl _) hle (by simp[G',lS]) (by simp[G',lS]) (by simp[G',lS])⟩
  ·rw[if_neg e1]at hj;obtain⟨h1,h2⟩:=h.iC j o' hj;refine⟨h1,fM (Nat.le_refl _) h1 hle h2 (by simp only[G',lS];rw[aX _ _ e1,aX _ _ e1];exact⟨rfl,rfl⟩) λx hb=>?_⟩
   have ug:=jB h (b:=x) (by rw[hb];simp)
   have hne:G.own x≠ .nm n:=by rw[hb];simp[e1]
   exact⟨(Bx x ug hne).trans hb,hold x ug (Wm x hne),λ_ _ q=>q⟩
 ·refine Ext.trans hx ⟨hle,Nat.le_refl _,p1,p2,p3,p4,hsz,λx hb ho=>hold x hb (Wm x (by rcases ho with q|q<;>simp only at q<;>rw[q]<;>simp)),λx hb=>?_⟩
  by_cases e:G.own x=.nm n
  ·by_cases e2:x=b'
   ·left;simp only[G',lS,if_pos e2];exact e.symm
   ·right;exact⟨⟨n,e⟩,by simp only[G',lS,if_neg e2,e,and_self,if_true]⟩
  ·exact .inl (Bx x hb e)
theorem MR.Rk(h:MR G lm L H w){n g sz b C:Nat}{e:TypeId}{cells0 cells:List LV}{ex:Bool}(hn:H.obj n=some (.vec e g sz cells0 ex))(tq:G.av n=.slice (some ⟨b,sz,none⟩) 0 C)
  {ob:Obj} (hv:qJ G H.next (eU w b ob) b C e sz cells ex):
  MR G lm L (H.set n (.vec e g sz cells ex)) (eU w b ob)/\(Ext E G H w->Ext E G (H.set n (.vec e g sz cells ex)) (eU w b ob)):=by
 obtain⟨hlt,htip,Br,b1,C1,vs0,rest0,q1,q0,qo,q2,q5,q3,q4,q6,q7⟩:=(⟨(h.iC n _ hn).1,(h.iC n _ hn).2⟩:n<H.next/\OR G H.next w n (.vec e g sz cells0 ex));have hbb:b1=b:=by rw[q1]at tq;cases tq;rfl
 subst hbb;exact⟨h.sW n b1 hn _ ob qo (by simp) (by simp) (hv.OR (Nat.le_refl _) (Gh.le_refl _ _) htip tq qo),λhx=>hx.sW n b1 _ ob qo⟩
end
section
variable {P:Program} {ty:TypeId->Option aU} {bO:Nat->Kd} {E:tL} {s:S} {a:Act} {w:World} {o:Oper}
theorem E3{M:Mem}{b:Nat}:∀{x y:List DV} {o:Nat},RC M b o x->RC M b (o+x.length) y->RC M b o (x++y)
 |[],y,o,h,k=>by simpa using k
 |c::cs,y,o,h,k=>by
  unfold RC at h;simp only[List.cons_append];unfold RC;exact⟨h.1,E3 h.2 (by simpa[Nat.add_assoc,Nat.add_comm 1]using k)⟩
theorem Om{M:Mem}{b:Nat}:∀{xs:List (List DV)} {o:Nat},RR M b o xs->RC M b o xs.flatten
 |[],o,h=>by simp[RC]
 |x::xs,o,h=>by
  unfold RR at h;simp only[List.flatten_cons];exact E3 h.1 (Om h.2)
theorem kZ{sz:Nat}{xs:List (List DV)}(h:∀r∈xs,r.length=sz):(bM xs).length=xs.length*sz:=by
 rw[bM,List.length_map,List.length_flatten];exact zZ h
theorem Du{sz:Nat}{x:LV}{p:Prop×Nat×List LV}(h:kO s sz x=some p)(hp:p.1){G:Gh}{lm:Nat->Option Nat}{L:Nat->Option (List LV)}(hM:MR G lm L s.H w){v:Value}(hv:LR G s.H.next lm x v):
  (∃A c,v=.slice A p.2.1 c)/\p.2.2.length=p.2.1*sz/\(p.2.1≠0->∃ad c news,v=.slice (some ad) p.2.1 c/\(∀(j:Nat) (u:Value),news[j]?=some u->w.cell? (ad.add j)=some u)/\bH G s.H.next lm p.2.2 news/\∀u∈news,u.oneCell'=true):=by
 unfold kO at h
 split at h
 ·rename_i n g z i len
  split at h
  ·rename_i e g' z' cs ex hn
   split at h
   ·rename_i hc;obtain⟨rfl,rfl,rfl⟩:=hc;cases h;simp only at hp|-;unfold LR at hv;obtain⟨_,_,b,o',cap,rfl,h4,h5,h6⟩:=hv;obtain⟨_,htip,hsz,b',C,vs,rest,q1,q0,qo,q2,q5,q3,q4,q6,q7⟩:=zh hM hn;obtain⟨C',r1,r2,r3⟩:=h6 htip.symm;rw[q1]at r1;cases r1;have hl:=bN q3;refine⟨⟨_,_,rfl⟩,by simp only[List.length_take,List.length_drop];omega,λhne=>⟨_,cap,(vs.drop (i*z')).take (len*z'),rfl,λj u hu=>?_,?_,?_⟩⟩
    ·have ho':o'=i*z':=r3 (by omega)
     subst ho';rw[ef,cell_of q2];rw[List.getElem?_take]at hu
     split at hu
     ·have We:vs[i*z'+j]?=some u:=by simpa using hu
      have hlt:=(List.getElem?_eq_some_iff.1 We).1;simp only[List.getElem?_toArray,List.getElem?_append_left hlt];exact We
     ·cases hu
    ·exact ca (Nat.le_refl _) (Gh.le_refl _ _) (λ_ _ e=>by cases e) _ _ (py (eS q3 _) _)
    ·exact λu hu=>q5 u (List.mem_append_left _ (List.mem_of_mem_drop (List.mem_of_mem_take hu)))
   ·cases h
  ·cases h
 ·rename_i hx;simp only[Option.map_eq_some_iff]at h;obtain⟨xs,hxs,rfl⟩:=h;simp only at hp|-;refine⟨uz hv hxs,kZ hp,λhne=>?_⟩
  have hD:=No hv hxs;unfold DR at hD;obtain⟨A,cap,sz',rfl,c1,c2,c3,c4⟩:=hD;rcases c4 with rfl|⟨b,o',rfl,hR⟩
  ·simp at hne
  ·obtain⟨vs,g1,g2,g3⟩:=Ct (G:=G) (nx:=s.H.next) (lm:=lm) _ _ (Om hR);refine⟨_,cap,vs,rfl,λj u hu=>by rw[ef];exact hM.qC _ _ _ (g2 j u hu),g3,λu hu=>?_⟩
   obtain⟨j,hj⟩:=List.mem_iff_getElem?.1 hu;exact jC g3 (by simp[LV.one]) u hu
theorem ua{z:Array Value}{n:Nat}(h:∀v∈z.toList,v.oneCell'=true)(hz:0<z.size):∀u∈(Builtin.zeroCells z n).toList,u.oneCell'=true:=by
 intro u hu;unfold Builtin.zeroCells at hu;simp only[Array.toList_map,List.mem_map]at hu;obtain⟨k,_,rfl⟩:=hu;have hk:=Nat.mod_lt k hz;rw[getElem!_pos z (k%z.size) hk];exact h _ (by simp)
theorem rz(t ty e:TypeId)(i:TypeInfo)(z:Value)(ht:P.underlying t=some (.slice e))(hi:P.info? e=some i)(hz:i.zero=some z)
  (hzs:z.cells.size=i.size) (tG:∀v∈z.cells.toList,v.oneCell'=true) (hsz:0<i.size) (v:Value) (n:Nat) (xs:List Value)
  (hv:((v=.slice none 0 0\/ ∃ad0,v=.slice (some ad0) 0 0)/\n=0/\xs=[])\/ ∃g cap cur,v=.slice (some ⟨g,0,none⟩) n cap/\w.heap[g]?=some (.cells cur e (0,0))/\n<=cap/\cap<=maxLen/\cur.size=cap*i.size/\cur.toList.take (n*i.size)=xs/\∀u∈cur.toList,u.oneCell'=true)
  (ad:Addr) (m c:Nat) (news:List Value) (hl:news.length=m*i.size) (hnews:∀(j:Nat) (u:Value),news[j]?=some u->w.cell? (ad.add j)=some u) (h1:∀u∈news,u.oneCell'=true)
  (h63:n+m<=34359738368) (hby:i.bytes<=4096) (hm:0<m):
  ∃b' C' w' rest,(Builtin.append_ #[t,t] ty #[v,.slice (some ad) m c]).run P w=.ok (.slice (some ⟨b',0,none⟩) (n+m) C') w'/\n+m<=C'/\C'<=maxLen/\
   w'.heap[b']?=some (.cells ((xs++news)++rest).toArray e (0,0))/\(∀u∈(xs++news)++rest,u.oneCell'=true)/\((xs++news)++rest).length=C'*i.size/\
   ((∃k cap,v=.slice (some ⟨b',0,none⟩) k cap/\jQ w w' (some b'))\/ (b'=w.heap.size/\jQ w w' none)):=by
 have hbytes:(n+m)*i.bytes<=140737488355328:=by
  have:(n+m)*i.bytes<=34359738368*4096:=Nat.mul_le_mul h63 hby;omega
 have hml:n+m<=maxLen:=by simp only[maxLen];omega
 have new:∀(old:Nat) (xs:List Value),xs.length=n*i.size->(∀u∈xs,u.oneCell'=true)->old<n+m->
   let w':=w.drew.alloc (.cells (xs.toArray++news.toArray++Builtin.zeroCells z.cells (grownCap w (n+m) old e-(n+m))) e)
   n+m<=grownCap w (n+m) old e/\grownCap w (n+m) old e<=maxLen/\w'.heap[w.heap.size]?=some (.cells ((xs++news)++(Builtin.zeroCells z.cells (grownCap w (n+m) old e-(n+m))).toList).toArray e (0,0))/\
   (∀u∈(xs++news)++(Builtin.zeroCells z.cells (grownCap w (n+m) old e-(n+m))).toList,u.oneCell'=true)/\((xs++news)++(Builtin.zeroCells z.cells (grownCap w (n+m) old e-(n+m))).toList).length=grownCap w (n+m) old e*i.size/\jQ w w' none:=by
  intro old xs ug hx1 ho;have hge:=grownCap_ge w (n+m) old e;refine⟨hge,grownCap_le_maxLen w (n+m) old e hml,?_,?_,?_,⟨⟨rfl,rfl,rfl,by simp,λk hk _=>heap_alloc_old w.drew _ hk⟩,Nat.le_succ _⟩⟩
  ·have:=heap_alloc_new w.drew (.cells (xs.toArray++news.toArray++Builtin.zeroCells z.cells (grownCap w (n+m) old e-(n+m))) e);rw[show w.drew.heap.size=w.heap.size from rfl]at this
   rw[this];congr 2;apply Array.ext';simp
  ·intro u hu;rcases List.mem_append.1 hu with hu|hu
   ·rcases List.mem_append.1 hu with hu|hu
    ·exact hx1 u hu
    ·exact h1 u hu
   ·exact ua tG (by omega) u hu
  ·simp only[List.length_append,Array.length_toList,size_zeroCells,hzs,ug,hl,<-Nat.add_mul]
   congr 1;omega
 rcases hv with⟨rfl|⟨ad0,rfl⟩,rfl,rfl⟩|⟨g,cap,cur,rfl,hg,hnc,GW,hcs,Ed,hc1⟩
 ·have hr:=run_append_nil (P:=P) w t ty e i z ht hi hz ad m c news hl hnews (by omega) (by omega) (by have hb:=hbytes;simp only[Nat.zero_add]at hb;omega)
  obtain⟨q1,q2,q3,q4,q5,q6⟩:=new 0 [] (by simp) (by simp) (by omega)
  simp only[Nat.zero_add,List.nil_append,Array.empty_append]at q1 q2 q3 q4 q5 q6 hr|-;exact⟨_,_,_,_,hr,q1,q2,q3,q4,q5,.inr ⟨rfl,q6⟩⟩
 ·have hr:=run_append_grow (P:=P) w t ty e i z ht hi hz ad0 0 0 [] (by simp) (by simp) ad m c news hl hnews (by omega) (by omega) (growslice_fits (by omega) hbytes)
  obtain⟨q1,q2,q3,q4,q5,q6⟩:=new 0 [] (by simp) (by simp) (by omega)
  simp only[Nat.zero_add,List.nil_append,Array.empty_append]at q1 q2 q3 q4 q5 q6 hr|-;exact⟨_,_,_,_,hr,q1,q2,q3,q4,q5,.inr ⟨rfl,q6⟩⟩
 ·have ug:xs.length=n*i.size:=by rw[<-Ed,List.length_take,Array.length_toList,hcs];exact Nat.min_eq_left (Nat.mul_le_mul_right _ hnc)
  have hx1:∀u∈xs,u.oneCell'=true:=λu hu=>hc1 u (List.mem_of_mem_take (Ed▸hu))
  by_cases hroom:n+m<=cap
  ·have hfit:n*i.size+news.length<=cur.size:=by rw[hl,hcs,<-Nat.add_mul];exact Nat.mul_le_mul_right _ hroom
   have hr:=run_append_room (P:=P) w t ty e i ht hi g n cap cur hg ad m c news hl hnews h1 hroom hfit;refine⟨g,cap,_,cur.toList.drop (n*i.size+news.length),hr,hroom,GW,?_,?_,?_,.inl ⟨n,cap,rfl,⟨⟨rfl,rfl,rfl,by simp,λk hk hne=>setRow_other w g k _ (λe=>hne (by simp[e]))⟩,Nat.le_refl _⟩⟩⟩
   ·rw[<-Ed];exact setRow_heap w g cur _ e _ hg
   ·intro u hu;rcases List.mem_append.1 hu with hu|hu
    ·rcases List.mem_append.1 hu with hu|hu
     ·exact hx1 u hu
     ·exact h1 u hu
    ·exact hc1 u (List.mem_of_mem_drop hu)
   ·simp only[List.length_append,List.length_drop,Array.length_toList,ug];omega
  ·have holds:∀(j:Nat) (u:Value),xs[j]?=some u->w.cell? ((⟨g,0,none⟩:Addr).add j)=some u:=λj u hu=>by
    rw[ef,Nat.zero_add,cell_of hg];rw[<-Ed,List.getElem?_take]at hu
    split at hu
    ·simpa using hu
    ·cases hu
   have hr:=run_append_grow (P:=P) w t ty e i z ht hi hz ⟨g,0,none⟩ n cap xs ug holds ad m c news hl hnews (by omega) (by simp only[maxLen]at hml;omega) (growslice_fits (by omega) hbytes)
   obtain⟨q1,q2,q3,q4,q5,q6⟩:=new cap xs ug hx1 (by omega)
   exact⟨_,_,_,_,hr,q1,q2,q3,q4,q5,.inr ⟨rfl,q6⟩⟩
theorem wO(t u ty e:TypeId)(kd:IntKind)(i:TypeInfo)(z:Value)(ht:P.underlying t=some (.slice e))(hu:P.underlying u=some (.int kd))(hi:P.info? e=some i)(hz:i.zero=some z)
  (n:Nat) (h0:0<n) (hsz:0<i.size) (h63:n<=16777216) (h48:n*i.bytes<=140737488355328):
  (Builtin.append_ #[t,u] ty #[.slice none 0 0,.int .i64 n]).run P w=.ok (.slice (some ⟨w.heap.size,0,none⟩) n (grownCap w n 0 e)) (w.drew.alloc (.cells (Builtin.zeroCells z.cells n++Builtin.zeroCells z.cells (grownCap w n 0 e-n)) e)):=by
 have hn:n≠0:=by omega
 have eM:∀m:Int,0<=m->m<=16777216->IntKind.wrap .i64 m=m:=λm q1 q2=>by
  show(if(true&&decide (m%18446744073709551616≥9223372036854775808))=true then m%18446744073709551616-18446744073709551616 else m%18446744073709551616)=m
  rw[if_neg (by simp;omega)];omega
 have hw:=eM n (by omega) (by omega)
 have h63':¬(9223372036854775807<(n:Int)):=by omega
 have br6:¬(281474976710656<Builtin.nextslicecap n 0*i.bytes):=by rw[nextslicecap_zero h0];omega
 have h48'':¬(281474976710656<(n:Int)*(i.bytes:Int)):=by
  have:((n*i.bytes:Nat):Int)<=140737488355328:=by omega
  rw[Int.natCast_mul]at this;omega
 have hns:¬(n*i.size=0):=by
  have:=Nat.mul_pos h0 hsz;omega
 have hneg:¬((n:Int)<0):=by omega
 simp[Builtin.append_,run_underlying ht,run_underlying hu,sizeOf,typeInfo,zeroValue,hi,hz,asInt,asIntOf,hw,hn,h63',br6,h48'',hneg,Question.forced,run_firstCells_none,newRow,grownCap];exact λq=>absurd q hns
theorem zH{e:TypeId}{ed:aU}(gN:ed.ok P e):∃i z,P.info? e=some i/\i.size=ed.sz/\i.zero=some z/\z.cells.toList=ed.zero/\i.bytes<=4096/\z.cells.size=i.size/\∀v∈z.cells.toList,v.oneCell'=true:=by
 obtain⟨i,z,i1,i2,i3,i4,i5,_⟩:=gN.i;exact⟨i,z,i1,i2,i3,i4,i5,by rw[<-Array.length_toList,i4,i2,gN.len],by rw[i4];exact gN.one⟩
theorem qm{sz k:Nat}{x:List LV}{vs:List Value}{G:Gh}{nx:Nat}{lm:Nat->Option Nat}(h:bH G nx lm x vs)(hl:vs.length=k*sz):sz∣x.length:=by
 rw[<-bN h,hl];exact Nat.dvd_mul_left ..
theorem RF{T e:TypeId}{d:aU}{x:Operand}{n g sz i len:Nat}(hok:d.ok P T)(hk:d.k=.sl e)(ho:o.op=.call ⟨.builtin .len,#[x],#[T]⟩)(hx:s.arg x=.vs n g sz i len)(hp:s.aI x)(hs:cF E s a w)(aN:∀t,o.dst=some t->t<s.nt)(pre:Prop):bT P E s o a w ⟨pre,oV .i64 len,.no⟩:=
 x7 ho hs aN λG lm _ aK=>by
  have h:=aW aK x hp;rw[hx]at h;unfold LR at h;obtain⟨_,_,b,o',cap,e,_⟩:=h;obtain⟨desc,u1,u2⟩:=hok.u;rw[hk]at u2;cases desc<;>simp only[TK.ok]at u2;exact⟨.int .i64 len,λcs=>by simp[builtin,e,Builtin.len_,goInt,run_underlying u1],by unfold oV LR DR;exact⟨rfl,rfl⟩⟩
theorem DK{T e:TypeId}{d ed:aU}(hok:d.ok P T)(hk:d.k=.sl e)(gN:ed.ok P e){x y:Operand}{p:Prop×Nat×List LV}(ho:o.op=.call ⟨.builtin .append,#[x,y],#[T,T]⟩)(hx:s.arg x=.d (.k (.slice none 0 0)))(hsz:ed.sz≠0)
  (hy:kO s ed.sz (s.arg y)=some p) (h1:s.aI x) (h2:s.aI y) (h3:p.1) (hs:cF E s a w) (aN:∀t,o.dst=some t->t<s.nt) (pre:Prop):
  (p.2.1=0->bT P E s o a w ⟨pre,.d (.k (.slice none 0 0)),.no⟩)/\
  (p.2.1≠0->cD s.H.next p.2.2->p.2.1<=34359738368->bT P E s o a w ⟨pre,.vs s.H.next 0 ed.sz 0 p.2.1,.iD (.vec e 0 ed.sz p.2.2 false)⟩):=by
 obtain⟨g2,G,lm,g1,hM,uQ,aK,_⟩:=hs;have kW:=aW aK x h1;rw[hx]at kW;unfold LR DR at kW;obtain⟨⟨A,cA,ey⟩,hl,hsrc⟩:=Du hy h3 hM (aW aK y h2);refine⟨λh0=>?_,λh0 hnb hbd=>?_⟩
 ·have hrun:=lH hok hk gN o.type none A 0 0 cA (Nat.le_refl _) w;refine⟨_,_,w,ia hok hk gN (.inl rfl) ho (by rw[kW.1,ey,h0];exact hrun),.inl rfl,?_⟩
  exact cF.mk' (L':=s.L) (H':=s.H) g2 g1 hM uQ aK (by unfold LR DR;exact⟨rfl,rfl⟩) aN
 ·obtain⟨ad,c,news,ev,n1,n2,n3⟩:=hsrc h0;obtain⟨i,z,i1,i2,i3,i4,i5,i6,i7⟩:=zH gN;obtain⟨desc,u1,u2⟩:=hok.u;rw[hk]at u2;cases desc<;>simp only[TK.ok]at u2;have UA:=u2.symm;subst UA;have hnl:news.length=p.2.1*i.size:=by rw[bN n2,hl,i2]
  obtain⟨b',C',w',rest,hr,q1,q2,q3,q4,q5,q6⟩:=rz (P:=P) (w:=w) T o.type _ i z u1 i1 i3 i6 i7 (by rw[i2];omega) (.slice none 0 0) 0 [] (.inl ⟨.inl rfl,rfl,rfl⟩) ad p.2.1 c news hnl n1 n3 (by omega) i5 (by omega)
  rcases q6 with⟨_,_,q,_⟩|⟨rfl,hg⟩
  ·cases q
  rw[i2]at q5;simp only[List.nil_append]at q3 q4 q5;have hv:qJ G s.H.next w' w.heap.size C' _ ed.sz p.2.2 false:=⟨by omega,q2,news,rest,q3,q4,dm _ _ n2 hnb,q5,by simp,qm n2 (by rw[hnl,i2])⟩
  obtain⟨G',r1,r2,r3,r4,r5⟩:=hM.FL hg hv;refine⟨_,_,w',ia hok hk gN (.inl rfl) ho (by rw[kW.1,ev];exact hr),.inl rfl,?_⟩
  refine cF.mk' (L':=s.L) (H':=s.H.add _) g2 (ct (Nat.le_succ _) r2 _ _ g1) r1 (r3 uQ) (ic (Nat.le_succ _) r2 (λ_ _ e=>e) aK) ?_ aN
  unfold LR;exact⟨Nat.lt_succ_self _,by rw[r4];exact Nat.le_refl _,w.heap.size,0,C',by simp,by omega,q2,λ_=>⟨C',r5,by omega,λ_=>by simp⟩⟩
theorem RM{T e:TypeId}{d ed:aU}(hok:d.ok P T)(hk:d.k=.sl e)(gN:ed.ok P e){x y:Operand}{p:Prop×Nat×List LV}{n g sz len:Nat}{cs:List LV}{ex:Bool}(ho:o.op=.call ⟨.builtin .append,#[x,y],#[T,T]⟩)(hx:s.arg x=.vs n g sz 0 len)(hsz:ed.sz=sz)
  (hn:s.H.obj n=some (.vec e g sz cs ex)) (hy:kO s sz (s.arg y)=some p) (h1:s.aI x) (h2:s.aI y) (h3:p.1) (hs:cF E s a w) (aN:∀t,o.dst=some t->t<s.nt) (pre:Prop):
  (p.2.1=0->bT P E s o a w ⟨pre,.vs n g sz 0 len,.no⟩)/\
  (p.2.1≠0->cD s.H.next p.2.2->(len+p.2.1)*sz<=cs.length->bT P E s o a w ⟨pre,.vs n g sz 0 (len+p.2.1),.dV n (.vec e g sz (putAt cs (len*sz) p.2.2) ex)⟩)/\
  (p.2.1≠0->cD s.H.next p.2.2->len*sz<=cs.length->len+p.2.1<=34359738368->bT P E s o a w ⟨pre,.vs n (g+1) sz 0 (len+p.2.1),.dV n (.vec e (g+1) sz (cs.take (len*sz)++p.2.2) false)⟩):=by
 subst hsz;obtain⟨g2,G,lm,g1,hM,uQ,aK,_⟩:=hs;have kW:=aW aK x h1;rw[hx]at kW;have bj1:=kW;unfold LR at kW;obtain⟨hlt,_,b,o',cap,ex1,c1,c2,hvx⟩:=kW;obtain⟨_,htip,hsz,b',C,vs,rest,q1,q0,qo,q2,q5,q3,q4,q6,q7⟩:=zh hM hn;obtain⟨C',r1,r2,r3⟩:=hvx htip.symm;rw[q1]at r1;cases r1;have hcap:cap=C:=by omega
 subst hcap;obtain⟨⟨A,cA,ey⟩,hl,hsrc⟩:=Du hy h3 hM (aW aK y h2);obtain⟨i,z,i1,i2,i3,i4,i5,i6,i7⟩:=zH gN;obtain⟨desc,u1,u2⟩:=hok.u;have hk':=hk;rw[hk]at u2;cases desc<;>simp only[TK.ok]at u2;have UA:=u2.symm;subst UA;have lX:=bN q3;have xm:=eN q2;refine⟨λh0=>?_,λh0 hnb hfit=>?_,λh0 hnb hle hbd=>?_⟩
 ·have hrun:=lH hok hk' gN o.type (some ⟨b,o',none⟩) A len cap cA c1 w;refine⟨_,_,w,ia hok hk gN (.inl rfl) ho (by rw[ex1,ey,h0];exact hrun),.inl rfl,?_⟩
  exact cF.mk' (L':=s.L) (H':=s.H) g2 g1 hM uQ aK (by rw[<-ex1];exact bj1) aN
 ·obtain⟨ad,c,news,ev,n1,n2,n3⟩:=hsrc h0;have hnl:news.length=p.2.1*ed.sz:=by rw[bN n2,hl]
  have hroom:len+p.2.1<=cap:=by
   have:(len+p.2.1)*ed.sz<=cap*ed.sz:=by rw[<-q4,List.length_append];omega
   exact Nat.le_of_mul_le_mul_right this hsz
  have ho':o'=0:=by rw[r3 (by omega)];simp
  subst ho';have hr:=run_append_room (P:=P) w T o.type _ i u1 i1 b len cap (vs++rest).toArray q2 ad p.2.1 c news (by rw[hnl,i2]) n1 n3 hroom (by rw[i2,hnl,<-Nat.add_mul];simp only[List.size_toArray,List.length_append];omega)
  rw[i2]at hr;have ae1:(vs++rest).toArray.toList.take (len*ed.sz)++news++(vs++rest).toArray.toList.drop (len*ed.sz+news.length)=(vs.take (len*ed.sz)++news++vs.drop (len*ed.sz+news.length))++rest:=by
   have h1:len*ed.sz+news.length<=vs.length:=by rw[hnl,<-Nat.add_mul];omega
   rw[List.take_append_of_le_length (by omega),List.drop_append_of_le_length h1]
   simp only[List.append_assoc]
  rw[ae1,xQ q2]at hr;have NO:(vs.take (len*ed.sz)++news++vs.drop (len*ed.sz+news.length)).length=vs.length:=by
   have h1:len*ed.sz+news.length<=vs.length:=by rw[hnl,<-Nat.add_mul];omega
   simp only[List.length_append,List.length_take,List.length_drop];omega
  have hput:=oK q3 (dm _ _ n2 hnb) (len*ed.sz);have hv:qJ G s.H.next (eU w b (.cells ((vs.take (len*ed.sz)++news++vs.drop (len*ed.sz+news.length))++rest).toArray e (0,0))) b cap e ed.sz (putAt cs (len*ed.sz) p.2.2) ex:=
   ⟨hsz,q0,_,rest,by rw[ew,if_pos ⟨rfl,xm⟩],λv hv=>by
    rcases List.mem_append.1 hv with hv|hv
    ·exact rK (λv hv=>q5 v (List.mem_append_left _ hv)) n3 _ _ v hv
    ·exact q5 v (List.mem_append_right _ hv),hput,by rw[List.length_append,NO,<-List.length_append];exact q4,q6,by
    have:(putAt cs (len*ed.sz) p.2.2).length=cs.length:=by rw[<-bN hput,NO,lX]
    rw[this];exact q7⟩
  obtain⟨m1,m2⟩:=hM.Rk (E:=E) hn q1 hv;refine⟨_,_,_,ia hok hk gN (.inl rfl) ho (by rw[ex1,ev];exact hr),.inl rfl,?_⟩
  refine cF.mk' (L':=s.L) (H':=s.H.set n _) g2 g1 m1 (m2 uQ) aK ?_ aN;unfold LR;exact⟨hlt,by rw[htip];exact Nat.le_refl _,b,0,cap,rfl,hroom,q0,λ_=>⟨cap,q1,by omega,λ_=>by simp⟩⟩
 ·obtain⟨ad,c,news,ev,n1,n2,n3⟩:=hsrc h0;have hnl:news.length=p.2.1*i.size:=by rw[bN n2,hl,i2]
  have hle':len*i.size<=vs.length:=by rw[i2];omega
  have hpre:((a.eval x=.slice none 0 0\/ ∃ad0,a.eval x=.slice (some ad0) 0 0)/\len=0/\vs.take (len*i.size)=[])\/ ∃g cap cur,a.eval x=.slice (some ⟨g,0,none⟩) len cap/\w.heap[g]?=some (.cells cur e (0,0))/\len<=cap/\cap<=maxLen/\cur.size=cap*i.size/\cur.toList.take (len*i.size)=vs.take (len*i.size)/\∀u∈cur.toList,u.oneCell'=true:=by
   by_cases hc0:cap=0
   ·subst hc0;have hl0:len=0:=by omega
    subst hl0;exact .inl ⟨.inr ⟨_,ex1⟩,rfl,by simp⟩
   ·have ho':o'=0:=by rw[r3 (by omega)];simp
    subst ho';exact .inr ⟨b,cap,_,ex1,q2,c1,c2,by rw[i2];simpa using q4,by simp only[List.take_append_of_le_length hle'],by simpa using q5⟩
  obtain⟨b2,C2,w',rest2,hr,t1,t2,t3,t4,t5,t6⟩:=rz (P:=P) (w:=w) T o.type _ i z u1 i1 i3 i6 i7 (by rw[i2];omega) (a.eval x) len (vs.take (len*i.size)) hpre ad p.2.1 c news hnl n1 n3 hbd i5 (by omega)
  rw[i2]at t3 t4 t5;have qE:(b2=b/\jQ w w' (some b))\/ (b2=w.heap.size/\jQ w w' none):=by
   rcases t6 with⟨k,cap',e1,e2⟩|e1
   ·rw[ex1]at e1;cases e1;exact .inl ⟨rfl,e2⟩
   ·exact .inr e1
  have hRs:bH G s.H.next ix (cs.take (len*ed.sz)++p.2.2) (vs.take (len*ed.sz)++news):=eF (py q3 _) (dm _ _ n2 hnb);have hv:qJ G s.H.next w' b2 C2 _ ed.sz (cs.take (len*ed.sz)++p.2.2) false:=⟨hsz,t2,_,rest2,t3,t4,hRs,t5,by simp,qm (k:=len+p.2.1) hRs (by
   rw[List.length_append,List.length_take,hnl,i2,Nat.add_mul,Nat.min_eq_left (by omega)])⟩
  obtain⟨G',r1,r2',r3',r4,r5⟩:=hM.WE hn q1 (Nat.lt_succ_self g) qE hv;refine⟨_,_,w',ia hok hk gN (.inl rfl) ho (by rw[ev];exact hr),.inl rfl,?_⟩
  refine cF.mk' (L':=s.L) (H':=s.H.set n _) g2 (ct (Nat.le_refl _) r2' _ _ g1) r1 (r3' uQ) (ic (Nat.le_refl _) r2' (λ_ _ e=>e) aK) ?_ aN
  unfold LR;exact⟨hlt,by rw[r4];exact Nat.le_refl _,b2,0,C2,by simp,t1,t2,λ_=>⟨C2,r5,by omega,λ_=>by simp⟩⟩
theorem Aj{G:Gh}{nx:Nat}{lm:Nat->Option Nat}{xs:List LV}{vs:List Value}(h:bH G nx lm xs vs):∀n,bH G nx lm (jS n xs) (List.replicate n vs).flatten
 |0=>by simp[jS,bH]
 |n+1=>by
  simp only[jS,List.replicate_succ,List.flatten_cons];exact eF h (Aj h n)
theorem rH{zs:List Value}(h:zs≠[]):∀n,((List.range (n*zs.length)).map λk=>zs[k%zs.length]!)=(List.replicate n zs).flatten
 |0=>by simp
 |n+1=>by
  have hp:0<zs.length:=List.length_pos_iff.2 h;have hf:∀m,(List.replicate (m+1) zs).flatten=(List.replicate m zs).flatten++zs:=λm=>by
   rw[List.replicate_succ',List.flatten_append];simp
  rw[Nat.succ_mul,List.range_add,List.map_append,rH h n,hf]
  congr 1
  apply List.ext_getElem
  ·simp
  ·intro j h1 h2;simp only[List.length_map,List.length_range]at h1;simp only[List.getElem_map,List.getElem_range];rw[Nat.add_comm,Nat.add_mul_mod_self_right,Nat.mod_eq_of_lt h1,getElem!_pos zs j h1]
theorem Z5{T e:TypeId}{d ed:aU}{len:Nat}{parts:Array (Nat×Operand)}{rows:List (List DV)}(ho:o.op=.buildSlice T len parts)(hok:d.ok P T)(hk:d.k=.sl e)(gN:ed.ok P e)
  (hidx:parts.toList.map (·.1)=List.range' 0 len) (hlen:parts.toList.length=len) (hrows:tW (parts.toList.map λp=>(p.1,s.arg p.2))=some rows) (hsz:∀r∈rows,r.length=ed.sz) (bo6:len*ed.sz<=16777216) (hlb:len<=16777216) (h0:len≠0) (hz0:ed.sz≠0) (hp:j7 s parts.toList)
  (hs:cF E s a w) (aN:∀t,o.dst=some t->t<s.nt) (pre:Prop):bT P E s o a w ⟨pre,.lF s.H.next rows,.iD (.arr e ed.sz rows.length)⟩:=by
 obtain⟨g2,G,lm,g1,hM,hx,aK,_⟩:=hs;obtain⟨desc,h1,h2⟩:=hok.u;rw[hk]at h2;cases desc<;>simp only[TK.ok]at h2;have ze:=h2.symm;subst ze
 let qs:List (Nat×Value):=parts.toList.map λp=>(p.1,a.eval p.2)
 let vs:List Value:=(qs.map λq=>q.2.cells.toList).flatten
 have hle:=Gu (G:=G) s.H.next (.slice none 0 0) 0;have hM1:=hM.TQ e ed.sz (by omega)
 have hx1:Ext E (u7 G s.H.next (.slice none 0 0) 0) (s.H.add (.arr e ed.sz 0)) w:=Ext.trans hx ⟨hle,Nat.le_succ _,rfl,rfl,rfl,Nat.le_refl _,Nat.le_refl _,λ_ _ _=>rfl,λ_ _=>.inl rfl⟩
 have hR:bH G s.H.next lm ((parts.toList.map λp=>(p.1,s.arg p.2)).map (·.2)) (qs.map (·.2)):=by
  simp only[qs,List.map_map];exact vI aK _ hp
 have Wi:=vE (M:=(xh G w.heap.size vs).M) (b:=w.heap.size) (o:=0) (size:=ed.sz) (zn hM s.H.next vs).M hrows hR hsz λi v hv=>by
  simp only[xh,if_true,Nat.zero_add];exact hv
 have hrl:rows.length=len:=by rw[Wi.2.2.2];simpa using hlen
 have hvl:vs.length=len*ed.sz:=by
  have:∀(qs:List (Nat×Value)),(∀q∈qs,q.2.cells.size=ed.sz)->((qs.map λq=>q.2.cells.toList).flatten).length=qs.length*ed.sz:=by
   intro qs
   induction qs with
   |nil=>simp
   |cons q qs ih=>
    intro h;simp only[List.map_cons,List.flatten_cons,List.length_append,List.length_cons,Array.length_toList,Nat.succ_mul];rw[ih (λx hx=>h x (List.mem_cons_of_mem _ hx)),h q (List.mem_cons_self ..)];omega
  rw[this qs Wi.2.1];simp only[qs,List.length_map,hlen]
 obtain⟨z,tG,qD⟩:=vq gN w;have hrun:(execOp a.eval o).run P w=.ok (.value (.slice (some ⟨w.heap.size,0,none⟩) len len)) (w.alloc (.cells vs.toArray e (0,0))):=by
  have NQ:∀cs:Array Value,cs.size=len*ed.sz->Instr.fill (λi=>some (i*ed.sz,ed.sz)) cs (parts.map λp=>(p.1,a.eval p.2)).toList=some vs.toArray:=λcs hcs=>by
   have:=BQ ed.sz (λi=>some (i*ed.sz,ed.sz)) (λ_=>rfl) qs 0 cs (by simp only[qs,List.map_map,List.length_map,hlen];exact hidx) Wi.2.1 (by simp only[qs,List.length_map,hlen,Nat.zero_add];exact hcs)
   rw[Array.toList_map];simpa[vs]using this
  simp only[execOp,ho,Instr.buildSlice];simp[run_underlying h1,cL gN w,show¬(2^24<len*ed.sz)by omega]
  have h0':¬(len=0\/ ed.sz=0):=λq=>q.elim h0 hz0
  have hm0:¬len*ed.sz=0:=λq=>h0' (Nat.mul_eq_zero.1 q)
  have:=NQ ((Array.range (len*ed.sz)).map λx=>z.cells[x%z.cells.size]!) (by simp)
  simp at this;simp[h0',tG,this,newRow];exact λq=>absurd q hm0
 have Jt:(w.alloc (.cells vs.toArray e (0,0))).ownsRow 0 e ed.sz (.slice (some ⟨w.heap.size,0,none⟩) len len) len ([]++vs):=by
  refine⟨by simpa using hvl,.inr ⟨w.heap.size,len,vs.toArray,rfl,Nat.zero_le _,?_,Nat.le_refl _,by simp only[maxLen];omega,by simpa using hvl,?_⟩⟩
  ·rw[dg,if_pos rfl]
  ·simp[<-hvl]
 have NI:w.ownsRow 0 e ed.sz ((u7 G s.H.next (.slice none 0 0) 0).av s.H.next) 0 []:=by
  simp only[u7,eG];exact⟨by simp,.inl ⟨rfl,rfl⟩⟩
 obtain⟨m1,m2,m3,m4,m5,b',m6,m7⟩:=hM1.append s.H.next (e:=e) (sz:=ed.sz) (m:=0) (m':=len) (w':=w.alloc (.cells vs.toArray e (0,0))) (v':=.slice (some ⟨w.heap.size,0,none⟩) len len) (cells:=[]) (news:=vs) (by simp[GH.ax]) (by omega) NI Jt
  (λv hv=>Wi.2.2.1 v (by rw[List.nil_append]at hv;exact hv)) (.inr ⟨rfl,⟨rfl,rfl,rfl,by rw[World.alloc];simp,λk hk _=>by rw[dg,if_neg (by omega)]⟩,Nat.le_refl _⟩)
 rw[CB]at m1;have hb':b'=w.heap.size:=by simp[Value.ownBlock]at m6;exact m6.symm
 subst hb';have hle2:=Gh.le_trans (Nat.le_succ s.H.next) hle m2;have YT:=vE (M:=(iv (u7 G s.H.next (.slice none 0 0) 0) s.H.next (.slice (some ⟨w.heap.size,0,none⟩) len len) len ([]++vs)).M) (b:=w.heap.size) (o:=0) (size:=ed.sz) hle2.M hrows hR hsz λi v hv=>by
  rw[Nat.zero_add,m7 i (by rw[List.nil_append];exact(List.getElem?_eq_some_iff.1 hv).1),List.nil_append]
  exact hv
 refine⟨_,_,_,hrun,.inl rfl,?_⟩;rw[hrl];refine cF.mk' (L':=s.L) (H':=s.H.add (.arr e ed.sz len)) g2 (ct (Nat.le_succ _) hle2 _ _ g1) m1 ?_ (ic (Nat.le_succ _) hle2 (λ_ _ e=>e) aK) ?_ aN
 ·refine Ext.trans hx1 ⟨m2,Nat.le_refl _,rfl,rfl,rfl,Nat.le_refl _,m5,λb hb ho=>m4 b hb (by rcases ho with q|q<;>simp only at q<;>rw[q]<;>simp),m3⟩
 ·unfold LR;refine⟨Nat.lt_succ_self _,?_,by simp[iv,hrl],λ_=>by simp[iv]⟩
  unfold DR;exact⟨_,len,ed.sz,by rw[hrl],by omega,by simp only[maxLen];omega,hsz,.inr ⟨w.heap.size,0,rfl,YT.1⟩⟩
theorem VU{T e:TypeId}{d ed:aU}{parts:Array (Nat×Operand)}(ho:o.op=.buildSlice T 0 parts)(hps:parts.toList=[])(hok:d.ok P T)(hk:d.k=.sl e)(gN:ed.ok P e)(hsz:ed.sz≠0)
  (hs:cF E s a w) (aN:∀t,o.dst=some t->t<s.nt) (pre:Prop):bT P E s o a w ⟨pre,.vs s.H.next 0 ed.sz 0 0,.iD (.vec e 0 ed.sz [] true)⟩:=by
 obtain⟨g2,G,lm,g1,hM,uQ,aK,_⟩:=hs;obtain⟨desc,u1,u2⟩:=hok.u;rw[hk]at u2;cases desc<;>simp only[TK.ok]at u2;have UA:=u2.symm;subst UA;have bl0:parts=#[]:=by apply Array.ext';simpa using hps
 subst bl0;have hv:qJ G s.H.next (w.alloc (.cells #[] e (0,0))) w.heap.size 0 e ed.sz [] true:=
  ⟨by omega,by simp only[maxLen];omega,[],[],by rw[dg,if_pos rfl];rfl,by simp,by simp[bH],by simp,λ_=>rfl,by simp⟩
 obtain⟨G',r1,r2,r3,r4,r5⟩:=hM.FL ⟨World.grownBy_alloc w _ none,Nat.le_refl _⟩ hv;have hrun:(execOp a.eval o).run P w=.ok (.value (.slice (some ⟨w.heap.size,0,none⟩) 0 0)) (w.alloc (.cells #[] e (0,0))):=by
  simp only[execOp,ho,Instr.buildSlice];have e0:∀f:Nat->Value,Array.map f (Array.range 0)=#[]:=λf=>by apply Array.ext';simp
  simp[run_underlying u1,cL gN w,Instr.fill,newRow,e0]
 refine⟨_,_,_,hrun,.inl rfl,?_⟩;refine cF.mk' (L':=s.L) (H':=s.H.add _) g2 (ct (Nat.le_succ _) r2 _ _ g1) r1 (r3 uQ) (ic (Nat.le_succ _) r2 (λ_ _ e=>e) aK) ?_ aN
 unfold LR;exact⟨Nat.lt_succ_self _,by rw[r4];exact Nat.le_refl _,w.heap.size,0,0,rfl,Nat.le_refl _,by simp only[maxLen];omega,λ_=>⟨0,r5,by omega,λq=>absurd q (by omega)⟩⟩
theorem Qg{T:TypeId}{len:Nat}{parts:Array (Nat×Operand)}{r:vo}(cW:nA P ty)(ho:o.op=.buildSlice T len parts)(h:bsV ty bO s o.dst T len parts=some r)(hp:r.pre)(hs:cF E s a w)(aN:∀t,o.dst=some t->t<s.nt):bT P E s o a w r:=by
 unfold bsV at h
 split at h
 ·cases h
 ·split at h
  ·split at h
   ·rename_i e sz zero bt hT;cases he:ty e with
    |none=>rw[he]at h;cases h
    |some ed=>
     rw[he]at h;simp only[Option.bind_some]at h
     split at h
     ·rename_i hc;cases h;exact VU (by rw[ho,hc.1]) hc.2.1 (cW _ _ hT) rfl (cW _ _ he) hc.2.2 hs aN _
     split at h
     ·rename_i hc;obtain⟨c1,c2,c3,c4,c5,c6⟩:=hc;simp only[Option.map_eq_some_iff]at h;obtain⟨rows,hr,rfl⟩:=h;exact Z5 ho (cW _ _ hT) rfl (cW _ _ he) c1 c2 hr hp.2 c3 c4 c5 c6 hp.1 hs aN _
     ·cases h
   ·cases h
  ·cases h
theorem VT{T e:TypeId}{d ed:aU}(hok:d.ok P T)(hk:d.k=.sl e)(gN:ed.ok P e)(hsz:ed.sz≠0){l c:Operand}{n m:Int}(ho:o.op=.makeSlice T l c)(hl:s.arg l=.d (.k (.int .i64 n)))(hc:s.arg c=.d (.k (.int .i64 m)))
  (h1:s.aI l) (h2:s.aI c) (h3:0<=n) (h4:n<=m) (h5:m<=16777216) (hs:cF E s a w) (aN:∀t,o.dst=some t->t<s.nt) (pre:Prop):
  bT P E s o a w ⟨pre,.vs s.H.next 0 ed.sz 0 n.toNat,.iD (.vec e 0 ed.sz (jS m.toNat (ed.zero.map kz)) true)⟩:=by
 obtain⟨g2,G,lm,g1,hM,uQ,aK,_⟩:=hs;have hlv:=aW aK l h1;have vk:=aW aK c h2;rw[hl]at hlv;rw[hc]at vk;unfold LR DR at hlv vk;obtain⟨i,z,i1,i2,i3,i4,i5,i6,i7⟩:=zH gN;obtain⟨desc,u1,u2⟩:=hok.u;rw[hk]at u2;cases desc<;>simp only[TK.ok]at u2;have UA:=u2.symm;subst UA;have hw1:IntKind.wrap .i64 n=n:=by simp[IntKind.wrap,IntKind.bits,IntKind.signed];omega
 have GU:IntKind.wrap .i64 m=m:=by simp[IntKind.wrap,IntKind.bits,IntKind.signed];omega
 have MD:(i.bytes:Int)*m<=4096*16777216:=by
  have h6:(0:Int)<=(i.bytes:Int):=by omega
  have h7:(i.bytes:Int)<=4096:=by omega
  have:=Int.mul_le_mul h7 h5 (by omega) (by omega)
  exact this
 have MC:(i.bytes:Int)*m<=281474976710656:=by omega
 have aa2:z.cells.toList≠[]:=λq=>by rw[<-List.length_eq_zero_iff,Array.length_toList,i6,i2]at q;exact hsz q
 have hr:=run_make (P:=P) w T e i z u1 i1 i3 .i64 .i64 n m h3 h4 MC (by omega)
 have hcells:(madeCells z.cells (m.toNat*i.size)).toList=(List.replicate m.toNat z.cells.toList).flatten:=by
  rw[<-rH aa2,Array.length_toList,i6];simp only[madeCells,Array.toList_map,Array.toList_range];apply List.map_congr_left;intro k hk;have hk':=Nat.mod_lt k (show 0<z.cells.size by rw[i6,i2];omega)
  rw[i6]at hk';rw[i6,getElem!_pos z.cells (k%i.size) (by rw[i6];exact hk'),getElem!_pos z.cells.toList (k%i.size) (by rw[Array.length_toList,i6];exact hk')]
  simp
 have Wx:madeCells z.cells (m.toNat*i.size)=((List.replicate m.toNat z.cells.toList).flatten).toArray:=by apply Array.ext';rw[hcells]
 rw[Wx,i4]at hr;have h1c:∀v∈(List.replicate m.toNat ed.zero).flatten,v.oneCell'=true:=λv hv=>by
  obtain⟨x,hx,hvx⟩:=List.mem_flatten.1 hv;rw[List.eq_of_mem_replicate hx]at hvx;exact gN.one v hvx
 have hlen:((List.replicate m.toNat ed.zero).flatten).length=m.toNat*ed.sz:=by simp[gN.len]
 have hml:m.toNat<=maxLen:=by simp only[maxLen];omega
 have hRL:=Aj (G:=G) (nx:=s.H.next) (lm:=ix) (w9 gN.one) m.toNat;have hv:qJ G s.H.next (w.alloc (.cells ((List.replicate m.toNat ed.zero).flatten).toArray e (0,0))) w.heap.size m.toNat e ed.sz (jS m.toNat (ed.zero.map kz)) true:=
  ⟨by omega,hml,_,[],by rw[dg,if_pos rfl,List.append_nil],by simpa using h1c,hRL,by rw[List.append_nil];exact hlen,λ_=>rfl,qm (k:=m.toNat) hRL hlen⟩
 obtain⟨G',r1,r2,r3,r4,r5⟩:=hM.FL ⟨World.grownBy_alloc w _ none,Nat.le_refl _⟩ hv;refine⟨.value (.slice (some ⟨w.heap.size,0,none⟩) n.toNat m.toNat),_,w.alloc (.cells ((List.replicate m.toNat ed.zero).flatten).toArray e (0,0)),by simp[execOp,ho,hlv.1,vk.1,hr],.inl rfl,?_⟩
 refine cF.mk' (L':=s.L) (H':=s.H.add _) g2 (ct (Nat.le_succ _) r2 _ _ g1) r1 (r3 uQ) (ic (Nat.le_succ _) r2 (λ_ _ e=>e) aK) ?_ aN
 unfold LR;exact⟨Nat.lt_succ_self _,by rw[r4];exact Nat.le_refl _,w.heap.size,0,m.toNat,rfl,by omega,hml,λ_=>⟨m.toNat,r5,by omega,λ_=>by simp⟩⟩
theorem VS{T e:TypeId}{d ed:aU}(hok:d.ok P T)(hk:d.k=.sl e)(gN:ed.ok P e){x:Operand}{lo hi:Option Operand}{n g sz i len:Nat}{l h:Int}(ho:o.op=.slice T x lo hi none)(hx:s.arg x=.vs n g sz i len)(hsz:ed.sz=sz)
  (e1:ir s lo=some l) (e2:gM s len hi=some h) (hp:s.aI x) (p1:gz s lo) (p2:gz s hi) (h0:0<=l) (h1:l<=h) (h2:h<=len) (hs:cF E s a w) (aN:∀t,o.dst=some t->t<s.nt) (pre:Prop):
  bT P E s o a w ⟨pre,.vs n g sz (i+l.toNat) (h.toNat-l.toNat),.no⟩:=
 bT.pure hs aN λG lm _ aK=>by
  subst hsz;obtain⟨desc,g1,g2⟩:=hok.u;rw[hk]at g2;cases desc<;>simp only[TK.ok]at g2;subst g2;have kW:=aW aK x hp;rw[hx]at kW;unfold LR at kW;obtain⟨q1,q2,b,o',cap,q3,q4,q5,q6⟩:=kW;have hb:=u6 (P:=P) (w:=w) (cap:=cap) aK e1 e2 p1 p2 h0 h1 h2 q4;refine⟨.slice (some (if cap=l.toNat then⟨b,o',none⟩else(⟨b,o',none⟩:Addr).add (l.toNat*ed.sz))) (h.toNat-l.toNat) (cap-l.toNat),?_,?_⟩
  ·simp[execOp,ho,Instr.sliceAt,Instr.slice,run_underlying g1,q3,hb,cL gN w]
   split<;>rfl
  ·unfold LR;refine⟨q1,q2,b,if cap=l.toNat then o' else o'+l.toNat*ed.sz,cap-l.toNat,by split<;>simp[ef],by omega,by omega,λe=>?_⟩
   obtain⟨C,r1,r2,r3⟩:=q6 e;refine⟨C,r1,by omega,λhlt=>?_⟩
   rw[if_neg (by omega),r3 (by omega),Nat.add_mul]
theorem MR.aF2{G:Gh}{lm:Nat->Option Nat}{L:Nat->Option (List LV)}{H:GH}(h:MR G lm L H w){n:Nat}{cs:List LV}(hn:H.obj n=some (.box cs)):
  ∃G',MR G' lm L (H.set n (.fz cs)) w/\G.le H.next G'/\(Ext E G H w->Ext E G' (H.set n (.fz cs)) w):=by
 obtain⟨hlt,g2,vs,⟨T,g3a,g3b⟩,g4⟩:=h.iC n _ hn;have zq:∀o v,G.M (G.nm n) o≠some v:=λo v hv=>by
  rcases h.dF _ o v hv with q|⟨n',e,sz,m,q,q',_⟩
  ·rw[g2]at q;cases q
  ·rw[g2]at q;cases q;rw[hn]at q';cases q'
 have hle:G.le H.next (fR G (G.nm n) vs):=⟨λb o v hv=>by
   have:b≠G.nm n:=λe=>zq o v (e▸hv)
   simp only[fR,if_neg this];exact hv,λ_ _=>rfl,λ_ _=>⟨Nat.le_refl _,λ_=>rfl⟩⟩
 have hown:∀x,x≠G.nm n->(fR G (G.nm n) vs).own x=G.own x:=λx hx=>by simp only[fR,if_neg hx]
 refine⟨fR G (G.nm n) vs,⟨λx o v hv=>?_,λx o v hv=>?_,λx hx=>?_,h.C3,?_,λj o hj=>?_⟩,hle,λhx=>?_⟩
 ·by_cases e:x=G.nm n
  ·subst e;simp only[fR,if_true]at hv;rw[cell_of g3a];simpa using hv
  ·simp only[fR,if_neg e]at hv;exact h.qC x o v hv
 ·by_cases e:x=G.nm n
  ·subst e;left;simp[fR]
  ·simp only[fR,if_neg e]at hv|-;rcases h.dF x o v hv with q|⟨n',e',sz,m,q1,q2,q3⟩
   ·exact .inl q
   ·have:n'≠n:=λe2=>by subst e2;rw[hn]at q2;cases q2
    exact .inr ⟨n',e',sz,m,q1,by rw[GH.ay,if_neg this];exact q2,q3⟩
 ·have jm:=eN g3a;have e:x≠G.nm n:=by omega
  have:=h.fresh x hx;simp only[fR,if_neg e];exact this
 ·exact h.jD (Nat.le_refl _) hle λb k hb=>by
   have:b≠G.nm n:=λe=>by rw[e,g2]at hb;cases hb
   exact⟨by rw[hown b this];exact hb,rfl⟩
 ·rw[GH.ay]at hj;by_cases e:j=n
  ·subst e;simp at hj;subst hj;exact⟨hlt,vs,λi v hv=>by show(fR G (G.nm j) vs).M (G.nm j) i=some v;simp only[fR,if_true];exact hv,ca (Nat.le_refl _) hle (λ_ _ e=>e) _ _ g4⟩
  ·rw[if_neg e]at hj;obtain⟨q1,q2⟩:=h.iC j o hj;refine⟨q1,fM (Nat.le_refl _) q1 hle q2 ⟨rfl,rfl⟩ λx hx=>?_⟩
   have hne:x≠G.nm n:=λe'=>by rw[e',g2]at hx;cases hx;exact e rfl
   exact⟨by rw[hown x hne];exact hx,rfl,λo v hv=>by simpa only[fR,if_neg hne]using hv⟩
 ·refine Ext.trans hx ⟨hle,Nat.le_refl _,rfl,rfl,rfl,Nat.le_refl _,Nat.le_refl _,λ_ _ _=>rfl,λx hx'=>?_⟩
  by_cases e:x=G.nm n
  ·subst e;right;exact⟨⟨n,g2⟩,by simp[fR]⟩
  ·left;exact hown x e
theorem Kf{G:Gh}{nx:Nat}{lm:Nat->Option Nat}{b es:Nat}:∀(k o:Nat) (cs:List LV) (vs:List Value) (rows:List (List DV)),chunk es k cs=some rows->bH G nx lm cs vs->k*es<=cs.length->(∀(i:Nat) (v:Value),vs[i]?=some v->G.M b (o+i)=some v)->
  RR G.M b o rows/\rows.length=k/\∀r∈rows,r.length=es
 |0,o,cs,vs,rows,h,hR,hl,hm=>by simp[chunk]at h;subst h;simp[RR]
 |k+1,o,cs,vs,rows,h,hR,hl,hm=>by
  simp only[chunk]at h;cases hr:tF (cs.take es)with
  |none=>rw[hr]at h;cases h
  |some r=>
   rw[hr]at h;simp only[Option.bind_some,Option.map_eq_some_iff]at h;obtain⟨rs,h1,rfl⟩:=h;have hlen:es<=cs.length:=by rw[Nat.succ_mul]at hl;omega
   have hvl:=bN hR;have hrl:r.length=es:=by
    have:∀(xs:List LV) (ys:List DV),tF xs=some ys->ys.length=xs.length:=by
     intro xs
     induction xs with
     |nil=>intro ys h;simp[tF]at h;simp[<-h]
     |cons x xs ih=>
      intro ys h;simp only[tF]at h;cases hx:Ys x with
      |none=>rw[hx]at h;cases h
      |some y=>
       rw[hx]at h;simp only[Option.bind_some,Option.map_eq_some_iff]at h;obtain⟨zs,h1,rfl⟩:=h;simp[ih zs h1]
    rw[this _ _ hr,List.length_take];omega
   have hC:=Fb (M:=G.M) (Mem.le_refl _) (b:=b) (o:=o) hr (py hR es) (λi v hv=>by
    rw[List.getElem?_take]at hv
    split at hv
    ·exact hm i v hv
    ·cases hv)
   obtain⟨i1,i2,i3⟩:=Kf (b:=b) k (o+es) (cs.drop es) (vs.drop es) rs h1 (eS hR es) (by rw[List.length_drop];rw[Nat.succ_mul]at hl;omega) λi v hv=>by
    have:=hm (es+i) v (by simpa using hv)
    rw[Nat.add_assoc];exact this
   refine⟨?_,by simp[i2],λx hx=>?_⟩
   ·unfold RR;rw[hrl];exact⟨hC.1,i1⟩
   ·rcases List.mem_cons.1 hx with rfl|hx
    ·exact hrl
    ·exact i3 x hx
theorem VV{T T' e:TypeId}{kd:IntKind}{d d' ed:aU}(hok:d.ok P T)(hk:d.k=.sl e)(ab3:d'.ok P T')(hk':d'.k=.int kd)(gN:ed.ok P e){x y:Operand}{n:Int}(ho:o.op=.call ⟨.builtin .append,#[x,y],#[T,T']⟩)(hx:s.arg x=.d (.k (.slice none 0 0)))(hy:s.arg y=.d (.k (.int .i64 n)))(hsz:ed.sz≠0)
  (h1:s.aI x) (h2:s.aI y) (h3:0<n) (h4:n<=16777216) (hs:cF E s a w) (aN:∀t,o.dst=some t->t<s.nt) (pre:Prop):
  bT P E s o a w ⟨pre,.vs s.H.next 0 ed.sz 0 n.toNat,.iD (.vec e 0 ed.sz (jS n.toNat (ed.zero.map kz)) false)⟩:=by
 obtain⟨g2,G,lm,g1,hM,uQ,aK,_⟩:=hs;have kW:=aW aK x h1;rw[hx]at kW;unfold LR DR at kW;have hyv:=aW aK y h2;rw[hy]at hyv;unfold LR DR at hyv;obtain⟨k,rfl⟩:∃k:Nat,n=(k:Int):=⟨n.toNat,by omega⟩
 simp only[Int.toNat_natCast];obtain⟨i,z,i1,i2,i3,i4,i5,i6,i7⟩:=zH gN;obtain⟨desc,u1,u2⟩:=hok.u;rw[hk]at u2;cases desc<;>simp only[TK.ok]at u2;have UA:=u2.symm;subst UA;obtain⟨desc',v1,v2⟩:=ab3.u;rw[hk']at v2;cases desc'<;>simp only[TK.ok]at v2;have v2':=v2.symm;subst v2';have hb:k*i.bytes<=140737488355328:=by
  have:k*i.bytes<=16777216*4096:=Nat.mul_le_mul (by omega) i5
  omega
 have hr:=wO (P:=P) (w:=w) T T' o.type _ _ i z u1 v1 i1 i3 k (by omega) (by rw[i2];omega) (by omega) hb
 have aa2:z.cells.toList≠[]:=λq=>by rw[<-List.length_eq_zero_iff,Array.length_toList,i6,i2]at q;exact hsz q
 have hcells:(Builtin.zeroCells z.cells k).toList=(List.replicate k z.cells.toList).flatten:=by
  rw[<-rH aa2,Array.length_toList];simp only[Builtin.zeroCells,Array.toList_map,Array.toList_range];apply List.map_congr_left;intro q hq;have hq':=Nat.mod_lt q (show 0<z.cells.size by rw[i6,i2];omega)
  rw[getElem!_pos z.cells (q%z.cells.size) hq',getElem!_pos z.cells.toList (q%z.cells.size) (by rw[Array.length_toList];exact hq')]
  simp
 have hge:=grownCap_ge w k 0 e;have hml:=grownCap_le_maxLen w k 0 e (by simp only[maxLen];omega)
 have hRL:=Aj (G:=G) (nx:=s.H.next) (lm:=ix) (w9 gN.one) k;have hlen:((List.replicate k ed.zero).flatten).length=k*ed.sz:=by simp[gN.len]
 have h1c:∀v∈(List.replicate k ed.zero).flatten,v.oneCell'=true:=λv hv=>by
  obtain⟨x,hx,hvx⟩:=List.mem_flatten.1 hv;rw[List.eq_of_mem_replicate hx]at hvx;exact gN.one v hvx
 have hrow:(Builtin.zeroCells z.cells k++Builtin.zeroCells z.cells (grownCap w k 0 e-k))=((List.replicate k ed.zero).flatten++(Builtin.zeroCells z.cells (grownCap w k 0 e-k)).toList).toArray:=by
  apply Array.ext';rw[Array.toList_append,hcells,i4]
 rw[hrow]at hr;have hv:qJ G s.H.next (w.drew.alloc (.cells ((List.replicate k ed.zero).flatten++(Builtin.zeroCells z.cells (grownCap w k 0 e-k)).toList).toArray e)) w.heap.size (grownCap w k 0 e) e ed.sz (jS k (ed.zero.map kz)) false:=by
  refine⟨by omega,hml,_,(Builtin.zeroCells z.cells (grownCap w k 0 e-k)).toList,?_,?_,hRL,?_,by simp,qm (k:=k) hRL hlen⟩
  ·have:=heap_alloc_new w.drew (.cells ((List.replicate k ed.zero).flatten++(Builtin.zeroCells z.cells (grownCap w k 0 e-k)).toList).toArray e);rw[show w.drew.heap.size=w.heap.size from rfl]at this
   rw[this]
  ·intro u hu;rcases List.mem_append.1 hu with hu|hu
   ·exact h1c u hu
   ·exact ua i7 (by rw[i6,i2];omega) u hu
  ·rw[List.length_append,hlen,Array.length_toList,size_zeroCells,i6,i2,<-Nat.add_mul];congr 1;omega
 have hg:jQ w (w.drew.alloc (.cells ((List.replicate k ed.zero).flatten++(Builtin.zeroCells z.cells (grownCap w k 0 e-k)).toList).toArray e)) none:=⟨⟨rfl,rfl,rfl,by simp,λk hk _=>heap_alloc_old w.drew _ hk⟩,Nat.le_succ _⟩
 obtain⟨G',r1,r2,r3,r4,r5⟩:=hM.FL hg hv;refine⟨.value (.slice (some ⟨w.heap.size,0,none⟩) k (grownCap w k 0 e)),_,w.drew.alloc (.cells ((List.replicate k ed.zero).flatten++(Builtin.zeroCells z.cells (grownCap w k 0 e-k)).toList).toArray e),by simp only[execOp,ho,resolve];simp[invoke,builtin,kW.1,hyv.1,hr],.inl rfl,?_⟩
 refine cF.mk' (L':=s.L) (H':=s.H.add _) g2 (ct (Nat.le_succ _) r2 _ _ g1) r1 (r3 uQ) (ic (Nat.le_succ _) r2 (λ_ _ e=>e) aK) ?_ aN
 unfold LR;exact⟨Nat.lt_succ_self _,by rw[r4];exact Nat.le_refl _,w.heap.size,0,grownCap w k 0 e,rfl,by omega,hml,λ_=>⟨grownCap w k 0 e,r5,by omega,λ_=>by simp⟩⟩
theorem Pb{T e:TypeId}{d:aU}{x:Operand}(hok:d.ok P T)(hk:d.k=.sl e)(ho:o.op=.call ⟨.builtin .cap,#[x],#[T]⟩)(hx:s.arg x=.d (.k (.slice none 0 0)))(hp:s.aI x)(hs:cF E s a w)(aN:∀t,o.dst=some t->t<s.nt)(pre:Prop):bT P E s o a w ⟨pre,oV .i64 0,.no⟩:=
 x7 ho hs aN λG lm _ aK=>by
  have h:=aW aK x hp;rw[hx]at h;unfold LR DR at h;obtain⟨desc,u1,u2⟩:=hok.u;rw[hk]at u2;cases desc<;>simp only[TK.ok]at u2;exact⟨.int .i64 0,λcs=>by simp[builtin,h.1,Builtin.cap_,goInt,run_underlying u1],by unfold oV LR DR;exact⟨rfl,rfl⟩⟩
theorem RE{T e:TypeId}{d ed:aU}(hok:d.ok P T)(hk:d.k=.sl e)(gN:ed.ok P e){x:Operand}{hi:Option Operand}{h:Int}(ho:o.op=.slice T x none hi none)(hx:s.arg x=.d (.k (.slice none 0 0)))
  (e2:gM s 0 hi=some h) (hp:s.aI x) (p2:gz s hi) (h1:0<=h) (h2:h<=(0:Int)) (hs:cF E s a w) (aN:∀t,o.dst=some t->t<s.nt) (pre:Prop):
  bT P E s o a w ⟨pre,.d (.k (.slice none 0 0)),.no⟩:=
 bT.pure hs aN λG lm _ aK=>by
  obtain⟨desc,g1,g2⟩:=hok.u;rw[hk]at g2;cases desc<;>simp only[TK.ok]at g2;subst g2;have kW:=aW aK x hp;rw[hx]at kW;unfold LR DR at kW;have hb:=u6 (P:=P) (w:=w) (cap:=0) (lo:=none) (l:=0) (len:=0) aK rfl e2 trivial p2 (Int.le_refl 0) h1 h2 (Nat.le_refl 0);refine⟨.slice none 0 0,?_,by unfold LR DR;exact⟨rfl,rfl⟩⟩
  have h0:h=0:=by omega
  subst h0;simp at hb;simp[execOp,ho,Instr.sliceAt,Instr.slice,run_underlying g1,kW.1,hb,cL gN w]
theorem Ir{T e:TypeId}{da ed:aU}{N:Nat}(bl2:da.ok P T)(hka:da.k=.arr N e)(gN:ed.ok P e){x:Operand}{lo hi:Option Operand}{n off:Nat}{l h:Int}{cs:List LV}{rows:List (List DV)}(ho:o.op=.slice T x lo hi none)(hx:s.arg x=.gp n off)
  (e1:ir s lo=some l) (e2:gM s N hi=some h) (hch:chunk ed.sz (h.toNat-l.toNat) (cs.drop (off+l.toNat*ed.sz))=some rows) (hp:s.aI x) (p1:gz s lo) (p2:gz s hi) (h0:0<=l) (h1:l<=h) (h2:h<=N) (hN:N<=16777216) (hfit:off+N*ed.sz<=cs.length) (hs:cF E s a w) (aN:∀t,o.dst=some t->t<s.nt) (pre:Prop):
  (s.H.obj n=some (.fz cs)->bT P E s o a w ⟨pre,.d (.sl rows),.no⟩)/\(s.H.obj n=some (.box cs)->bT P E s o a w ⟨pre,.d (.sl rows),.dV n (.fz cs)⟩):=by
 have key:∀(G:Gh) (lm:Nat->Option Nat) (H:GH),(∀t,LR G s.H.next lm (s.env t) (a.tmps.getD t undef))->H.next=s.H.next->OR G H.next w n (.fz cs)->∃v',(execOp a.eval o).run P w=.ok (.value v') w/\LR G s.H.next lm (.d (.sl rows)) v':=by
  intro G lm H aK hHn hO;obtain⟨desc',g3,g4⟩:=bl2.u;rw[hka]at g4;cases desc'<;>simp only[TK.ok]at g4;rename_i N' e';obtain⟨rfl,rfl⟩:=g4;have kW:=aW aK x hp;rw[hx]at kW;unfold LR at kW;obtain⟨_,ev⟩:=kW;obtain⟨vs,q1,q2⟩:=hO;have hb:=Kj (P:=P) (w:=w) aK e1 e2 p1 p2 h0 h1 h2;have hvl:=bN q2;have hR:=Kf (b:=G.nm n) (h.toNat-l.toNat) (off+l.toNat*ed.sz) _ (vs.drop (off+l.toNat*ed.sz)) rows hch (eS q2 _) (by
   rw[List.length_drop];have hm:h.toNat*ed.sz<=N'*ed.sz:=Nat.mul_le_mul_right _ (by omega)
   rw[Nat.sub_mul];have hm2:l.toNat*ed.sz<=h.toNat*ed.sz:=Nat.mul_le_mul_right _ (by omega)
   omega) (λi v hv=>q1 _ v (by simpa using hv))
  refine⟨.slice (some (if N'=l.toNat then⟨G.nm n,off,none⟩else(⟨G.nm n,off,none⟩:Addr).add (l.toNat*ed.sz))) (h.toNat-l.toNat) (N'-l.toNat),?_,?_⟩
  ·simp[execOp,ho,Instr.sliceAt,run_underlying g3,ev,hb,cL gN w,Instr.sureAddr]
  ·unfold LR DR;refine⟨_,_,ed.sz,by rw[hR.2.1],by rw[hR.2.1];omega,by simp only[maxLen];omega,hR.2.2,?_⟩
   by_cases hz:rows=[]
   ·exact .inl hz
   ·right;have hne:N'≠l.toNat:=λq=>by
     have:rows.length=0:=by rw[hR.2.1];omega
     exact hz (List.eq_nil_of_length_eq_zero this)
    exact⟨_,_,by rw[if_neg hne,ef],hR.1⟩
 refine⟨λhn=>?_,λhn=>?_⟩
 ·exact bT.pure hs aN λG lm hM aK=>key G lm s.H aK rfl (hM.iC n _ hn).2
 ·obtain⟨g2,G,lm,g1,hM,uQ,aK,_⟩:=hs;obtain⟨G',m1,m2,m3⟩:=hM.aF2 (E:=E) hn;have yE:=ic (s:=s) (a:=a) (Nat.le_refl _) m2 (λ_ _ e=>e) aK
  obtain⟨v',r1,r2⟩:=key G' lm (s.H.set n (.fz cs)) yE rfl ((m1.iC n _ (by simp[GH.ay])).2)
  exact⟨_,v',w,r1,.inl rfl,cF.mk' (L':=s.L) (H':=s.H.set n (.fz cs)) g2 (ct (Nat.le_refl _) m2 _ _ g1) m1 (m3 uQ) yE r2 aN⟩
theorem He{b:Builtin}{args:Array Operand}{tys:Array TypeId}{r:vo}(cW:nA P ty)(ho:o.op=.call ⟨.builtin b,args,tys⟩)(h:eR ty bO s o.dst b tys.toList args.toList=some r)(hp:r.pre)(hs:cF E s a w)(aN:∀t,o.dst=some t->t<s.nt):bT P E s o a w r:=by
 unfold eR at h
 split at h
 ·rename_i t x e1 e2;have ho':o.op=.call ⟨.builtin .len,#[x],#[t]⟩:=by rw[ho];congr<;>(apply Array.ext';simp[e1,e2])
  split at h
  ·rename_i e sz zero bt n g z i len hT hx;cases h;exact RF (cW _ _ hT) rfl ho' hx hp hs aN _
  ·cases h
 ·rename_i t t' x y e1 e2;have ho':o.op=.call ⟨.builtin .append,#[x,y],#[t,t']⟩:=by rw[ho];congr<;>(apply Array.ext';simp[e1,e2])
  split at h
  ·rename_i et;subst et
   split at h
   ·rename_i e sz zero bt hT;cases he:ty e with
    |none=>rw[he]at h;cases h
    |some ed=>
     rw[he]at h;simp only[Option.bind_some]at h
     split at h
     ·cases h
     ·rename_i hsz
      split at h
      ·rename_i hx
       split at h
       ·rename_i d hd
        split at h
        ·simp only[Option.map_eq_some_iff]at h;obtain⟨p,hy,rfl⟩:=h
         split at hp
         ·rename_i h0;rw[if_pos h0];exact(DK (cW _ _ hT) rfl (cW _ _ he) ho' hx hsz hy hp.1 hp.2.1 hp.2.2 hs aN _).1 h0
         ·rename_i h0;rw[if_neg h0];exact(DK (cW _ _ hT) rfl (cW _ _ he) ho' hx hsz hy hp.1 hp.2.1 hp.2.2.1 hs aN _).2 h0 hp.2.2.2.1 hp.2.2.2.2
        ·cases h
       ·cases h
      ·rename_i n g z i len hx
       split at h
       ·rename_i hc;obtain⟨rfl,rfl⟩:=hc
        split at h
        ·rename_i e' g' sz' cs ex hn
         split at h
         ·rename_i hc;obtain⟨rfl,rfl,rfl⟩:=hc;simp only[Option.map_eq_some_iff]at h;obtain⟨p,hy,rfl⟩:=h;have key:=λh1 h2 h3 pre=>RM (p:=p) (cW _ _ hT) rfl (cW _ _ he) ho' hx rfl hn hy h1 h2 h3 hs aN pre
          split at hp
          ·rename_i h0;rw[if_pos h0];exact(key hp.1 hp.2.1 hp.2.2 _).1 h0
          ·rename_i h0;rw[if_neg h0]
           split at hp
           ·rename_i h4;rw[if_pos h4];exact(key hp.1 hp.2.1 hp.2.2.1 _).2.1 h0 hp.2.2.2 h4
           ·rename_i h4;rw[if_neg h4];exact(key hp.1 hp.2.1 hp.2.2.1 _).2.2 h0 hp.2.2.2.1 hp.2.2.2.2.1 hp.2.2.2.2.2
         ·cases h
        ·cases h
       ·cases h
      ·cases h
   ·cases h
  ·split at h
   ·rename_i e sz zero bt kd sz' zero' bt' n hT hT' hx hy;cases he:ty e with
    |none=>rw[he]at h;cases h
    |some ed=>
     rw[he]at h;simp only[Option.bind_some]at h
     split at h
     ·cases h
     ·rename_i hsz
      split at h
      ·rename_i d hd
       split at h
       ·cases h;exact VV (cW _ _ hT) rfl (cW _ _ hT') rfl (cW _ _ he) ho' hx hy hsz hp.1 hp.2.1 hp.2.2.1 hp.2.2.2 hs aN _
       ·cases h
      ·cases h
   ·cases h
 ·rename_i t x e1 e2;have ho':o.op=.call ⟨.builtin .cap,#[x],#[t]⟩:=by rw[ho];congr<;>(apply Array.ext';simp[e1,e2])
  split at h
  ·rename_i e sz zero bt hT hx;cases h;exact Pb (cW _ _ hT) rfl ho' hx hp hs aN _
  ·cases h
 ·cases h
theorem L4{T:TypeId}{l c:Operand}{r:vo}(cW:nA P ty)(ho:o.op=.makeSlice T l c)(h:L6 ty s T l c=some r)(hp:r.pre)(hs:cF E s a w)(aN:∀t,o.dst=some t->t<s.nt):bT P E s o a w r:=by
 unfold L6 at h
 split at h
 ·rename_i e sz zero bt n m hT hl hc;cases he:ty e with
  |none=>rw[he]at h;cases h
  |some ed=>
   rw[he]at h;simp only[Option.bind_some]at h
   split at h
   ·cases h
   ·rename_i hsz;cases h;exact VT (cW _ _ hT) rfl (cW _ _ he) hsz ho hl hc hp.1 hp.2.1 hp.2.2.1 hp.2.2.2.1 hp.2.2.2.2 hs aN _
 ·cases h
theorem OX{T:TypeId}{x:Operand}{lo hi:Option Operand}{r:vo}(cW:nA P ty)(ho:o.op=.slice T x lo hi none)(h:Rf ty s T x lo hi=some r)(hp:r.pre)(hs:cF E s a w)(aN:∀t,o.dst=some t->t<s.nt):bT P E s o a w r:=by
 unfold Rf at h
 split at h
 ·rename_i e sz zero bt n g z i len hT hx;cases he:ty e with
  |none=>rw[he]at h;cases h
  |some ed=>
   rw[he]at h;simp only[Option.bind_some]at h
   split at h
   ·rename_i hsz;cases hl:ir s lo with
    |none=>rw[hl]at h;cases h
    |some l=>
     rw[hl]at h;simp only[Option.bind_some,Option.map_eq_some_iff]at h;obtain⟨h',hh,rfl⟩:=h;exact VS (cW _ _ hT) rfl (cW _ _ he) ho hx hsz hl hh hp.1 hp.2.1 hp.2.2.1 hp.2.2.2.1 hp.2.2.2.2.1 hp.2.2.2.2.2 hs aN _
   ·cases h
 ·rename_i e sz zero bt hT hx;cases he:ty e with
  |none=>rw[he]at h;cases h
  |some ed=>
   rw[he]at h;simp only[Option.bind_some]at h;cases lo with
   |some l=>cases h
   |none=>
    simp only[Option.map_eq_some_iff]at h;obtain⟨h',hh,rfl⟩:=h;exact RE (cW _ _ hT) rfl (cW _ _ he) ho hx hh hp.1 hp.2.1 hp.2.2.1 hp.2.2.2 hs aN _
 ·rename_i N e sz zero bt n off hT hx;cases he:ty e with
  |none=>rw[he]at h;cases h
  |some ed=>
   rw[he]at h;cases hl:ir s lo with
   |none=>rw[hl]at h;cases h
   |some l=>
    rw[hl]at h;cases hh:gM s N hi with
    |none=>rw[hh]at h;cases h
    |some h'=>
     rw[hh]at h;simp only[Option.bind_some]at h
     split at h
     ·rename_i cs hn;simp only[Option.map_eq_some_iff]at h;obtain⟨rows,hr,rfl⟩:=h;exact(Ir (cW _ _ hT) rfl (cW _ _ he) ho hx hl hh hr hp.1 hp.2.1 hp.2.2.1 hp.2.2.2.1 hp.2.2.2.2.1 hp.2.2.2.2.2.1 hp.2.2.2.2.2.2.1 hp.2.2.2.2.2.2.2 hs aN _).2 hn
     ·rename_i cs hn;simp only[Option.map_eq_some_iff]at h;obtain⟨rows,hr,rfl⟩:=h;exact(Ir (cW _ _ hT) rfl (cW _ _ he) ho hx hl hh hr hp.1 hp.2.1 hp.2.2.1 hp.2.2.2.1 hp.2.2.2.2.1 hp.2.2.2.2.2.1 hp.2.2.2.2.2.2.1 hp.2.2.2.2.2.2.2 hs aN _).1 hn
     ·cases h
 ·cases h
end
end Go.Aft
