import Derived.Test.YthinedikejlgmaaGreatA39
import Derived.Test.YthinedikejlgmaaGreatA38
set_option linter.all false
section
set_option maxRecDepth 20000
namespace Go.Aft
open Go.Proofs.Tryz
def optsM (g:Exp->Option Bag):List Exp->Option (List Bag)
 | []=>some []
 | e :: es=>match g e with
  | none=>none
  | some b=>match optsM g es with
   | none=>none
   | some bs=>some (b :: bs)
theorem expsM_eq (p:Prog) (W:World') (top:Int):∀ l:List Exp,expsM p W top l=optsM (expM p W top) l
 | []=>by rw [expsM,optsM]
 | e :: es=>by
  rw [expsM,optsM]
  cases expM p W top e with
  | none=>rfl
  | some b =>
   simp only [expsM_eq p W top es]
   cases optsM (expM p W top) es <;> rfl
theorem optsM_snoc (g:Exp->Option Bag) (x:Exp):∀ l:List Exp,optsM g (l ++ [x])=match optsM g l with
  | none=>none
  | some bs=>match g x with
   | none=>none
   | some b=>some (bs ++ [b])
 | []=>by
  simp only [List.nil_append,optsM]
 | e :: es=>by
  rw [List.cons_append,optsM,optsM]
  cases g e with
  | none=>rfl
  | some b =>
   simp only [optsM_snoc g x es]
   cases optsM g es with
   | none=>rfl
   | some bs =>
    simp only
    cases g x <;> rfl
theorem optsM_none {g:Exp->Option Bag}:∀ {l:List Exp} {x:Exp},x ∈ l->g x=none->optsM g l=none
 | e :: es,x,h,hx=>by
  rw [optsM]
  rcases List.mem_cons.1 h with q | q
  ·subst q;rw [hx]
  ·cases g e with
   | none=>rfl
   | some b=>simp only [optsM_none q hx]
theorem optsM_len {g:Exp->Option Bag}:∀ {l:List Exp} {bs:List Bag},optsM g l=some bs->bs.length=l.length
 | [],bs,h=>by rw [optsM] at h;cases h;rfl
 | e :: es,bs,h=>by
  rw [optsM] at h
  cases q:g e with
  | none=>rw [q] at h;cases h
  | some b =>
   rw [q] at h
   cases q2:optsM g es with
   | none=>rw [q2] at h;cases h
   | some bs' =>
    rw [q2] at h;cases h
    simp [optsM_len q2]
theorem optsM_all {g:Exp->Option Bag} {P:Bag->Prop}:∀ {l:List Exp} {bs:List Bag},optsM g l=some bs->(∀ x ∈ l,∀ b,g x=some b->P b)->∀ b ∈ bs,P b
 | [],bs,h,_=>by rw [optsM] at h;cases h;simp
 | e :: es,bs,h,hp=>by
  rw [optsM] at h
  cases q:g e with
  | none=>rw [q] at h;cases h
  | some b =>
   rw [q] at h
   cases q2:optsM g es with
   | none=>rw [q2] at h;cases h
   | some bs' =>
    rw [q2] at h;cases h
    intro y hy
    rcases List.mem_cons.1 hy with e1 | e1
    ·subst e1;exact hp e (by simp) _ q
    ·exact optsM_all q2 (fun x hx=>hp x (by simp [hx])) y e1
def BagR (o:Option Bag) (H:GH) (ce:CE) (H':GH):Prop:=H'=H/\match o with
 | some b=>ce=.ret (bagL b)
 | none=>ce=.pan tooMuch
theorem rBag_all (l:List Bag):∀ r ∈ l.map rBag,r.length=1:=fun r hr=>by obtain ⟨_,_,rfl⟩:=List.mem_map.1 hr;rfl
theorem mean_changedE (g:Exp->Option Bag) (l:List Exp) (hl:l.length<=1000) (F:FuncId) (cap:List LV) (H:GH) (hcap:nbs H.next cap) (hF:∀ x ∈ l,∀ H',H.next<=H'.next->(∀ m,m < H.next->H'.obj m=H.obj m)->ECall prog F ([lv (rExp x)] ++ cap) H' (BagR (g x) H')) :
  ECall prog 141 [sl (l.map rExp),.fn (.func F) [] cap] H fun ce H'=>H'=H/\match optsM g l with
   | some bs=>ce=.ret (kidsL bs)
   | none=>ce=.pan tooMuch:=by
 have cc:=cx0_ok
 refine ECall.bodyN cx0_ok func141 rfl call141 (by rw [ntmps141];simp) rfl fun hf hw=>?_
 simp [ntmps141,results141] at hf |-
 refine AW.loopS cc (fun a:Nat × LV × GH=>⟨[(1,.fn (.func F) [] cap),(5,a.2.1),(8,.d (.sl (l.map rExp))),(9,lvI l.length),(10,lvI a.1)],[],a.2.2⟩) (fun a=>l.length - a.1) (fun a=>a.1<=l.length/\∃ bs,optsM g (l.take a.1)=some bs/\AppX 30 1 H a.2.1 (bs.map rBag) a.2.2) (0,.d (.k (.slice none 0 0)),H) ⟨⟨by simp,[],by simp [optsM],.nil⟩,by simp [LV.only,onlys,nbs_only _ hcap]⟩ ?_
 rintro ⟨i,x,H'⟩ ⟨hi,bs,hbs,happ⟩
 simp only at hi hbs happ
 simp
 refine ⟨fun h=>?_,fun h=>?_⟩
 ·obtain ⟨e,hee⟩:∃ e,l[i]=e:=⟨_,rfl⟩
  have hem:e ∈ l:=hee ▸ List.getElem_mem h
  have htk:l.take (i+1)=l.take i ++ [e]:=by rw [<- take_more h,hee]
  have hd:=hF e hem H' happ.nx happ.ob
  have hbl:=optsM_len hbs
  have hbl2:bs.length<=1000:=by rw [hbl];simp;omega
  simp [rExp_eq] at hd
  simp [h,List.getElem?_eq_getElem h,hee,rExp_eq,happ.plain.all]
  refine ⟨nbs_mono happ.nx _ hcap,EC.of hd (fun v H2 hR=>?_) (fun v H2 hR=>?_)⟩
  ·obtain ⟨rfl,hR⟩:=hR
   cases q:g e with
   | none=>rw [q] at hR;cases hR
   | some b =>
    rw [q] at hR
    cases hR
    simp [happ.plain.all,bagL]
    refine APK.appX (ys:=[rBag b]) tyE53 rfl tyE30 (by simp) (x:=x) (by simp) happ (by simp [rBag,rowsOf]) (by simp) (rBag_all _) (fun r hr=>by simp only [List.mem_singleton] at hr;subst hr;rfl) (by simp;omega) (by simp) fun x' H3 happ' _ _=>?_
    simp [happ'.plain.all,happ'.only,wrap_succ (n:=9223372036854775807) (show i < 9223372036854775807 by omega)]
    refine NX.go (i+1,x',H3) (by simp only;omega) ⟨h,bs ++ [b],?_,by rw [List.map_append];exact happ'⟩ (by simp [happ'.only,happ'.plain.all,LV.only,onlys,nbs_only _ hcap])
    rw [htk,optsM_snoc,hbs,q]
  ·obtain ⟨rfl,hR⟩:=hR
   cases q:g e with
   | some b=>rw [q] at hR;cases hR
   | none =>
    rw [q] at hR
    cases hR
    rw [optsM_none hem q]
    simp
    exact fun hz=>⟨Drop_same happ.nx happ.ob hw.none,trivial⟩
 ·have:i=l.length:=by omega
  subst this
  rw [List.take_length] at hbs
  rw [hbs]
  simp [happ.plain.all,happ.fz]
  exact fun hz=>Drop_same happ.nx happ.ob hw.none
theorem exp_one {n:Nat} {top:Int} {e:Exp} {H:GH} (hn:n < H.next) {o:Option Bag} (h:ECall prog 79 [.gp n 0,lv (rExp e),lvI top] H (BagR o H)):ECall prog 142 ([lv (rExp e)] ++ [.ip [.gp n 0] 0,.ip [lvI top] 0]) H (BagR o H):=by
 have cc:=cxK_ok (p:=kds [3] [] [])
 refine ECall.bodyN (cxK_ok (p:=kds [3] [] [])) func142 rfl call142 (by rw [ntmps142];simp) rfl fun hf hw=>?_
 simp [rExp_eq] at h
 simp [ntmps142,results142,rExp_eq]
 refine ⟨hn,EC.of h (fun v H2 hR=>?_) (fun v H2 hR=>?_)⟩
 ·obtain ⟨rfl,hR⟩:=hR
  cases o with
  | none=>cases hR
  | some b =>
   cases hR
   simp [bagL,BagR]
   exact fun hz=>Drop_self hz
 ·obtain ⟨rfl,hR⟩:=hR
  cases o with
  | some b=>cases hR
  | none =>
   cases hR
   simp [BagR]
   exact fun hz=>⟨Drop_self hz,trivial⟩
def actEs:List (Value × LV):=(List.range 15).map fun i=>(Value.int .i64 ((i:Nat)+1),.fn (.func (185+i)) [] [])
theorem actEs_get {op:Int} (h:1<=op/\op<=15):mfind (.int .i64 op) actEs=some (.fn (.func (184+op.toNat)) [] []):=by
 have hcases:op=1 \/ op=2 \/ op=3 \/ op=4 \/ op=5 \/ op=6 \/ op=7 \/ op=8 \/ op=9 \/ op=10 \/ op=11 \/ op=12 \/ op=13 \/ op=14 \/ op=15:=by omega
 rcases hcases with rfl | rfl | rfl | rfl | rfl | rfl | rfl | rfl | rfl | rfl | rfl | rfl | rfl | rfl | rfl <;> rfl
theorem actEs_key:∀ (a:Value) (b:LV),(a,b) ∈ actEs->(KK.sc (Sc.int .i64)).has a=true:=fun a b h=>by
 obtain ⟨x,_,q⟩:=List.mem_map.1 h
 cases q;rfl
theorem shp_kids {op:Int} {x:Shp} (h:shpOf op=some x) (h1:1<=op/\op<=15):x.kids<=2:=by
 have hcases:op=1 \/ op=2 \/ op=3 \/ op=4 \/ op=5 \/ op=6 \/ op=7 \/ op=8 \/ op=9 \/ op=10 \/ op=11 \/ op=12 \/ op=13 \/ op=14 \/ op=15:=by omega
 rcases hcases with rfl | rfl | rfl | rfl | rfl | rfl | rfl | rfl | rfl | rfl | rfl | rfl | rfl | rfl | rfl
 all_goals
  simp [shpOf] at h
  subst h
  decide
structure WldX (H:GH) (n ms mn mv ma:Nat) (p:Prog) (W:World'):Prop where
 wld:Wld H n ms mn mv ma p W
 oa:H.obj ma=some (.map actEs)
theorem WldX.mono {H H':GH} {n ms mn mv ma:Nat} {p:Prog} {W:World'} (h:WldX H n ms mn mv ma p W) (hw:nbH H) (ho:∀ m,m < H.next->H'.obj m=H.obj m):WldX H' n ms mn mv ma p W:=by
 obtain ⟨⟨ob,⟨es,os,hes⟩,⟨en,on,hen⟩,ov,dl⟩,oa⟩:=h
 exact ⟨⟨by rw [ho _ (hw.lt ob)];exact ob,⟨es,by rw [ho _ (hw.lt os)];exact os,hes⟩,⟨en,by rw [ho _ (hw.lt on)];exact on,hen⟩,by rw [ho _ (hw.lt ov)];exact ov,dl⟩,by rw [ho _ (hw.lt oa)];exact oa⟩
theorem kid_size {e k:Exp} (h:k ∈ e.kids):SizeOf.sizeOf k < SizeOf.sizeOf e:=by
 obtain ⟨op,name,n,fold,calcs,kids⟩:=e
 simp only [Exp.kids] at h
 have:=List.sizeOf_lt_of_mem h
 simp only [Exp.mk.sizeOf_spec];omega
theorem expM_eq (p:Prog) (W:World') (top:Int) (e:Exp):expM p W top e=match optsM (expM p W top) e.kids with
  | none=>none
  | some ks=>if fitsB (summedM (actM p W e.op e.name e.n e.fold e.calcs ks) top) then some (summedM (actM p W e.op e.name e.n e.fold e.calcs ks) top) else none:=by
 obtain ⟨op,name,n,fold,calcs,kids⟩:=e
 rw [expM,expsM_eq]
 simp only [Exp.kids,Exp.op,Exp.name,Exp.n,Exp.fold,Exp.calcs]
 cases optsM (expM p W top) kids <;> rfl
def ExpOk (p:Prog) (e:Exp):Prop:=∀ x ∈ allE e,NodeOk p x
theorem allEs_mem {k:Exp}:∀ {l:List Exp},k ∈ l->∀ x ∈ allE k,x ∈ allEs l
 | y :: l,h,x,hx=>by
  rw [allEs,List.mem_append]
  rcases List.mem_cons.1 h with q | q
  ·subst q;exact .inl hx
  ·exact .inr (allEs_mem q x hx)
theorem ExpOk.self {p:Prog} {e:Exp} (h:ExpOk p e):NodeOk p e:=h e (by obtain ⟨op,name,n,fold,calcs,kids⟩:=e;rw [allE];simp)
theorem ExpOk.kid {p:Prog} {e k:Exp} (h:ExpOk p e) (hk:k ∈ e.kids):ExpOk p k:=fun x hx=>h x (by
 obtain ⟨op,name,n,fold,calcs,kids⟩:=e
 rw [allE]
 exact List.mem_cons_of_mem _ (allEs_mem hk x hx))
theorem expM_ok {p:Prog} {W:World'} (hs:∀ b ∈ W.srcs,BagOk b) (hd:∀ b ∈ W.defs,BagOk b) {top:Int} (ht:top<=200):∀ (N:Nat) (e:Exp),SizeOf.sizeOf e < N->ExpOk p e->∀ b,expM p W top e=some b->BagOk b
 | 0,e,h,_,_,_=>absurd h (by omega)
 | N+1,e,h,he,b,hb=>by
  rw [expM_eq] at hb
  cases q:optsM (expM p W top) e.kids with
  | none=>rw [q] at hb;cases hb
  | some ks =>
   rw [q] at hb
   simp only at hb
   split at hb
   ·rename_i hf
    cases hb
    have hks:∀ b ∈ ks,BagOk b:=optsM_all q fun x hx b hb=>expM_ok hs hd ht N x (by have:=kid_size hx;omega) (he.kid hx) b hb
    exact bag_ok ht (act_items hs hd e he.self ks (optsM_len q) hks).2 hf
   ·cases hb
theorem world_exp {p:Prog} {W:World'} (hs:∀ b ∈ W.srcs,BagOk b) (hd:∀ b ∈ W.defs,BagOk b) {n ms mn mv ma:Nat} {top:Int} (ht:top<=200):∀ (N:Nat) (e:Exp),SizeOf.sizeOf e < N->ExpOk p e->∀ H,WldX H n ms mn mv ma p W ->
  ECall prog 79 [.gp n 0,lv (rExp e),lvI top] H (BagR (expM p W top e) H)
 | 0,e,h,_,_,_=>absurd h (by omega)
 | N+1,e,h,he,H,hW=>by
  have cc:=cxK_ok (p:=kds [3,4,5] [] [])
  refine ECall.bodyN (cxK_ok (p:=kds [3,4,5] [] [])) func79 rfl call79 (by rw [ntmps79];simp) rfl fun hf hw=>?_
  have hnl:=hw.lt hW.wld.ob
  obtain ⟨x,h1,h2,h3,h4,h5⟩:=shp_of he.self.ok
  have hop:1<=e.op/\e.op<=15:=Classical.byContradiction fun hn=>by
   unfold shpOf at h1
   repeat (rw [if_neg (by omega)] at h1)
   cases h1
  have hkl:e.kids.length<=1000:=by
   have:=shp_kids h1 hop
   omega
  have hch:=mean_changedE (expM p W top) e.kids hkl 142 [.ip [.gp n 0] 0,.ip [lvI top] 0] H (by simp [nbs,LV.nb];exact hnl) (fun k hk H' hn' ho'=>exp_one (by omega) (world_exp hs hd ht N k (by have:=kid_size hk;omega) (he.kid hk) H' (hW.mono hw ho')))
  rw [expM_eq]
  simp [ntmps79,results79,rExp_eq]
  refine ⟨hnl,EC.of hch (fun v H2 hR=>?_) (fun v H2 hR=>?_)⟩
  rotate_left
  ·obtain ⟨rfl,hR⟩:=hR
   cases q:optsM (expM p W top) e.kids with
   | some ks=>rw [q] at hR;cases hR
   | none =>
    rw [q] at hR
    cases hR
    simp [BagR]
    exact fun hz=>⟨Drop_self hz,trivial⟩
  obtain ⟨rfl,hR⟩:=hR
  cases q:optsM (expM p W top) e.kids with
  | none=>rw [q] at hR;cases hR
  | some ks =>
   rw [q] at hR
   cases hR
   have hks:∀ b ∈ ks,BagOk b:=optsM_all q fun x hx b hb=>expM_ok hs hd ht N x (by have:=kid_size hx;omega) (he.kid hx) b hb
   have hact:=fun G (hG:WldX G n ms mn mv ma p W)=>world_act hG.wld hd e he.self ks (optsM_len q) hks
   have hit:=act_items hs hd e he.self ks (optsM_len q) hks
   obtain ⟨A,hA⟩:∃ A,actM p W e.op e.name e.n e.fold e.calcs ks=A:=⟨_,rfl⟩
   rw [hA] at hit
   simp only [hA] at hact |-
   have ob:=hW.wld.ob
   have oa:=hW.oa
   have hkey:=eq_true actEs_key
   have hget:=actEs_get hop
   have hact2:=hact H2 hW
   simp [rExp_eq] at hact2
   simp
   refine AW.draw cc [(12,.n)] (.q 4<|.q 9<|.q 0<|.q 1<|.q 2<|.q 3<|.q 5<|.q 6<|.q 7<|.q 8<|.f (.cons 10 (.q 11<|.q 12<|.q 13<|.done) (.cons 11 (.f<|.one 10<|.q 12<|.q 13<|.done) (.nil)))) (by kernel_rfl) ?_
   simp [ob,oa,hkey,hget,rExp_eq]
   have hsum:∀ l':List Item,l'.Perm A->AFun prog 135 [.d (.sl (l'.map rItem)),lvI top] (sl ((summedM A top).map rItem)):=fun l' hp=>by
    have:=mean_summed l' top (by rw [hp.length_eq];omega) (fun x hx=>by have:=(hit.2 x (hp.mem_iff.1 hx)).1;omega)
    rw [summedM_perm hp] at this
    exact this
   obtain ⟨B,hB⟩:∃ B,summedM A top=B:=⟨_,rfl⟩
   rw [hB] at hsum
   have hmany:=bag_ContainsFunc B (fun x=>decide (1000000 < x.n)) 143 (fun x _=>exp_many x)
   refine ⟨⟨hnl,ECn.of hact2 (fun v H3 hR _=>?_) (fun x H3 env hR _=>by obtain ⟨⟨_,_,q⟩,_⟩:=hR;cases q)⟩,hnl,ECn.of hact2 (fun v H3 hR _=>?_) (fun x H3 env hR _=>by obtain ⟨⟨_,_,q⟩,_⟩:=hR;cases q)⟩
   all_goals
    obtain ⟨⟨l',hp,q⟩,rfl⟩:=hR
    cases q
    simp [bagL]
    refine FC.afun (hsum l' hp) ?_
    simp at hmany
    simp
    refine ⟨fun hl=>⟨hl,EC.afun hmany ?_⟩,fun hl=>?_⟩
    ·have hd1:decide (300 < (B.length:Int))=false:=by simp;omega
     simp [hd1,cond]
     refine ⟨fun x hx hm hz=>⟨H3,Drop_self hz,?_⟩,fun hm hz=>⟨H3,Drop_self hz,?_⟩⟩
     ·have hf0:fitsB B=false:=by
       rw [Bool.eq_false_iff];intro q
       simp only [fitsB,Bool.and_eq_true,decide_eq_true_eq,List.all_eq_true] at q
       have:=q.2 x hx;omega
      rw [hA,hB,hf0]
      exact ⟨rfl,rfl⟩
     ·have hf1:fitsB B=true:=by
       simp only [fitsB,Bool.and_eq_true,decide_eq_true_eq,List.all_eq_true]
       exact ⟨by omega,hm⟩
      rw [hA,hB,hf1]
      exact ⟨rfl,rfl⟩
    ·have hd1:decide (300 < (B.length:Int))=true:=by simp;omega
     simp [hd1,cond]
     refine fun hz=>⟨H3,Drop_self hz,?_⟩
     have hf0:fitsB B=false:=by
      rw [Bool.eq_false_iff];intro q
      simp only [fitsB,Bool.and_eq_true,decide_eq_true_eq,List.all_eq_true] at q
      omega
     rw [hA,hB,hf0]
     exact ⟨rfl,rfl⟩
end Go.Aft
end
section
set_option maxRecDepth 20000
namespace Go.Aft
open Go.Proofs.Tryz
def farS (p:Prog) (g:List Nat) (v:Int) (e:Exp):Int:=if e.op=3/\idx (defNames p) e.name ∈ natI g then minI v e.n else v
def farL (p:Prog) (g:List Nat) (l:List Exp) (v:Int):Int:=l.foldl (farS p g) v
def farM (p:Prog) (g:List Nat):Int:=g.foldl (fun v d=>farL p g (allE (p.defs.getD d default).exp) v) 201
def farC (g:List Nat) (n no nl:Nat):List LV:=[.ip [rowN g] 0,.ip [.gp n 0] 0,.gp no 0,.gp nl 0]
theorem allEs_take:∀ (l:List Exp) (i:Nat) (h:i < l.length),allEs (l.take (i+1))=allEs (l.take i) ++ allE l[i]
 | e :: l,0,h=>by simp [allEs]
 | e :: l,i+1,h=>by
  simp only [List.take_succ_cons,allEs,List.getElem_cons_succ,allEs_take l i (by simpa using h),List.append_assoc]
theorem allE_eq (e:Exp):allE e=e :: allEs e.kids:=by obtain ⟨op,name,n,fold,calcs,kids⟩:=e;rw [allE];rfl
theorem far_look {p:Prog} {W:World'} {n ms mn mv ma no nl:Nat} {g:List Nat} {H:GH} (hW:WldX H n ms mn mv ma p W) (hw0:nbH H) (h1:H.next<=no) (h2:H.next<=nl) (hne:no ≠ nl) :
  ∀ (N:Nat) (e:Exp),SizeOf.sizeOf e < N->ExpOk p e->∀ (G:GH) (v:Int),(∀ m,m < H.next->G.obj m=H.obj m)->G.obj no=some (.box [lvI v])->G.obj nl=some (.box [.fn (.func 200) [] (farC g n no nl)]) ->
   ECall prog 200 ([lv (rExp e)] ++ farC g n no nl) G fun ce H'=>(∃ x,ce=.ret x)/\H'=G.set no (.box [lvI (farL p g (allE e) v)])
 | 0,e,h,_,_,_,_,_,_=>absurd h (by omega)
 | N+1,e,h,he,G,v,hG,hno,hnl=>by
  have cc:=cxK_ok (p:=kds [5] [] [])
  have hkl:e.kids.length<=1000:=by
   obtain ⟨x,q1,q2,q3,q4,q5⟩:=shp_of he.self.ok
   have hop:1<=e.op/\e.op<=15:=Classical.byContradiction fun hn=>by
    unfold shpOf at q1
    repeat (rw [if_neg (by omega)] at q1)
    cases q1
   have:=shp_kids q1 hop
   omega
  refine ECall.bodyNW (cxK_ok (p:=kds [5] [] [])) func200 rfl call200 (by rw [ntmps200];simp [farC]) rfl fun hf hw=>?_
  have hWG:=hW.mono hw0 hG
  have ob:=hWG.wld.ob
  obtain ⟨en,on,hen⟩:=hWG.wld.on
  have lno:=hw.lt hno
  have lnl:=hw.lt hnl
  have lob:=hw.lt ob
  have hkey:=eq_true hen.key
  have hco:=fun k=>int_Contains (natI g) k
  have hal:allE e=e :: allEs e.kids:=allE_eq e
  have hfs:farL p g (allE e) v=farL p g (allEs e.kids) (farS p g v e):=by rw [hal];rfl
  rw [hfs]
  simp [ntmps200,results200,farC,rExp_eq]
  refine AW.seq cc ?_
  simp
  refine AW.join (c:=cxK (kds [5] [] [])) (fun a:Int=>⟨[(4,.gp nl 0),(5,.ip ((rExp e).map .d) 0)],[],G.set no (.box [lvI a])⟩) (fun a=>a=farS p g v e) (AW.ev cc ?_) ?_
  ·simp
   refine AW.draw cc [(12,.n)] (.q 0<|.q 1<|.q 2<|.q 3<|.q 9<|.q 4<|.q 5<|.q 6<|.q 7<|.q 8<|.q 10<|.q 11<|.q 12<|.q 13<|.done) (by kernel_rfl) ?_
   have hidG:G.set no (.box [.d (.k (.int .i64 v))])=G:=GH.set_id hno
   by_cases h3:e.op=3
   ·have hid:=he.self.df (.inr h3)
    have hget:=hen.get e.name hid
    have hmx:max (idx (defNames p) e.name) 0=idx (defNames p) e.name:=by omega
    simp [rExp_eq,h3,ob,on,hkey,hget,hmx]
    refine ⟨by simp [rowN,LV.nb],FCg.afun (fun _=>hco _) ?_⟩
    simp
    refine ⟨fun hin=>?_,fun hin=>?_⟩
    ·simp [hno,lno]
     exact JN.go (farS p g v e) rfl (by simp [rExp_eq,farS,h3,hin])
    ·exact JN.go (farS p g v e) rfl (by simp [rExp_eq,farS,h3,hin,hidG])
   ·have h3':(e.op == 3)=false:=by simpa using h3
    simp [rExp_eq,h3',ob,on,hkey]
    refine FCg.afun (v:=.d (.k (.bool false))) (fun q=>by cases q) ?_
    simp
    exact JN.go (farS p g v e) rfl (by simp [rExp_eq,farS,h3,hidG])
  ·intro v1 hv1
   rw [<- hv1]
   have hs0:∀ X Y,(G.set no X).set no Y=G.set no Y:=fun X Y=>GH.set_set
   refine AW.seq cc ?_
   simp [rExp_eq]
   refine AW.block (c:=cxK (kds [5] [] [])) ?_
   refine AW.loopS cc (fun i:Nat=>⟨[(4,.gp nl 0),(27,sl (e.kids.map rExp)),(28,lvI e.kids.length),(29,lvI i)],[],G.set no (.box [lvI (farL p g (allEs (e.kids.take i)) v1)])⟩) (fun i=>e.kids.length - i) (fun i=>i<=e.kids.length) 0 ⟨Nat.zero_le _,by simp [allEs,farL]⟩ ?_
   intro i hi
   simp
   refine ⟨fun hl=>?_,fun hl=>?_⟩
   ·obtain ⟨k,hk⟩:∃ k,e.kids[i]=k:=⟨_,rfl⟩
    have hkm:k ∈ e.kids:=hk ▸ List.getElem_mem hl
    have hat:=allEs_take e.kids i hl
    rw [hk] at hat
    have hih:=far_look hW hw0 h1 h2 hne N k (by have:=kid_size hkm;omega) (he.kid hkm) (G.set no (.box [lvI (farL p g (allEs (e.kids.take i)) v1)])) (farL p g (allEs (e.kids.take i)) v1) (fun m hm=>by rw [GH.set_obj,if_neg (by omega)];exact hG m hm) GH.set_same (by rw [GH.set_obj,if_neg (Ne.symm hne)];exact hnl)
    have hgl:∀ X,(G.set no X).obj nl=some (.box [.fn (.func 200) [] (farC g n no nl)]):=fun X=>by rw [GH.set_obj,if_neg (Ne.symm hne)];exact hnl
    have hwi:=wrap_succ (n:=9223372036854775807) (show i < 9223372036854775807 by omega)
    simp [rExp_eq,farC] at hih
    simp [hl,List.getElem?_eq_getElem hl,hk,rExp_eq,hgl,farC]
    have hfa:farL p g (allEs (e.kids.take (i+1))) v1=farL p g (allE k) (farL p g (allEs (e.kids.take i)) v1):=by rw [hat,farL,List.foldl_append];rfl
    refine ⟨⟨by simp [rowN,LV.nb],by rw [GH.set_next];exact lob,by rw [GH.set_next];exact lno,by rw [GH.set_next];exact lnl⟩,EC.of hih (fun v2 H2 hR=>?_) (fun v2 H2 hR=>by obtain ⟨⟨_,q⟩,_⟩:=hR;cases q)⟩
    obtain ⟨_,hE⟩:=hR
    rw [hE]
    clear hE
    simp [GH.set_set]
    exact NX.go (i+1) (by omega) hl (by simp [hwi,hfa])
   ·have:i=e.kids.length:=by omega
    subst this
    rw [List.take_length]
    exact fun hz=>hz.drop (by rw [GH.set_next];exact Nat.le_refl _)
theorem mean_far {p:Prog} {W:World'} {n ms mn mv ma:Nat} {g:List Nat} {H:GH} (hW:WldX H n ms mn mv ma p W) (he:∀ (d:Nat) (h:d < p.defs.length),ExpOk p p.defs[d].exp) (hg:∀ d ∈ g,d < p.defs.length) (hgl:g.length<=6) :
  ECall prog 139 [.gp n 0,rowN g] H fun ce H'=>ce=.ret (lvI (farM p g))/\H'=H:=by
 have cc:=cxK_ok (p:=kds [2,3] [5,6] [])
 refine ECall.bodyNW (cxK_ok (p:=kds [2,3] [5,6] [])) func139 rfl call139 (by rw [ntmps139];simp) rfl fun hf hw=>?_
 have lob:=hw.lt hW.wld.ob
 simp [ntmps139,results139,rowN]
 refine AW.seq cc ?_
 simp
 refine AW.seq cc ?_
 simp [GH.add_obj,GH.add_next,GH.add_set]
 refine AW.seq cc ?_
 simp [GH.add_obj,GH.add_next,GH.add_set]
 refine AW.seq cc ?_
 simp [GH.add_obj,GH.add_next,GH.add_set]
 refine ⟨⟨by omega,by omega⟩,?_⟩
 obtain ⟨HH,hHH⟩:∃ HH:Int->GH,HH=fun v=>(H.add (.box [lvI v])).add (.box [.fn (.func 200) [] (farC g n H.next (H.next+1))]):=⟨_,rfl⟩
 have hn:∀ v,(HH v).next=H.next+2:=fun v=>by rw [hHH];rfl
 have hno:∀ v,(HH v).obj H.next=some (.box [lvI v]):=fun v=>by rw [hHH];simp only;rw [GH.add_obj,GH.add_next,if_neg (by omega),GH.add_obj,if_pos rfl]
 have hnl:∀ v,(HH v).obj (H.next+1)=some (.box [.fn (.func 200) [] (farC g n H.next (H.next+1))]):=fun v=>by rw [hHH];simp only;rw [GH.add_obj,GH.add_next,if_pos rfl]
 have hlo:∀ v m,m < H.next->(HH v).obj m=H.obj m:=fun v m hm=>by rw [hHH];simp only;rw [GH.add_obj,GH.add_next,if_neg (by omega),GH.add_obj,if_neg (by omega)]
 have hst:∀ v u,(HH v).set H.next (.box [lvI u])=HH u:=fun v u=>by
  rw [hHH];simp only [GH.set,GH.add];congr 1;funext m;unfold upd;split <;> simp_all
 have h0:((H.add (.box [.d (.k (.int .i64 201))])).add (.box [.d (.k .nilFunc)])).set (H.next+1) (.box [.fn (.func 200) [] [.ip [.d (.sl ((natI g).map rI))] 0,.ip [.gp n 0] 0,.gp H.next 0,.gp (H.next+1) 0]])=HH 201:=by
  rw [hHH]
  have:∀ (A:GH) (a b:GO),(A.add a).set A.next b=A.add b:=fun A a b=>GH.add_set
  exact this (H.add (.box [.d (.k (.int .i64 201))])) _ _
 rw [h0]
 obtain ⟨ex,hex⟩:∃ ex:Nat->List Exp,ex=fun d=>allE (p.defs.getD d default).exp:=⟨_,rfl⟩
 refine AW.seq cc ?_
 simp
 refine AW.loopS cc (fun i:Nat=>⟨[(2,.ip [.gp n 0] 0),(5,.gp H.next 0),(6,.gp (H.next+1) 0),(10,rowN g),(11,lvI g.length),(12,lvI i)],[],HH ((g.take i).foldl (fun v d=>farL p g (ex d) v) 201)⟩) (fun i=>g.length - i) (fun i=>i<=g.length) 0 ⟨Nat.zero_le _,by simp [rowN,natI]⟩ ?_
 intro i hi
 have hwi:=wrap_succ (n:=9223372036854775807) (show i < 9223372036854775807 by omega)
 simp [rowN]
 refine ⟨fun h=>?_,fun h=>?_⟩
 ·obtain ⟨d,hd⟩:∃ d,g[i]=d:=⟨_,rfl⟩
  have hdm:d ∈ g:=hd ▸ List.getElem_mem h
  have hdl:=hg d hdm
  have htk:g.take (i+1)=g.take i ++ [d]:=by rw [<- take_more h,hd]
  have hgk:(natI g)[i]?=some (d:Int):=by simp [natI,List.getElem?_eq_getElem h,hd]
  obtain ⟨v,hv⟩:∃ v,(g.take i).foldl (fun v d=>farL p g (ex d) v) 201=v:=⟨_,rfl⟩
  have hv2:(g.take (i+1)).foldl (fun v d=>farL p g (ex d) v) 201=farL p g (ex d) v:=by rw [htk,List.foldl_append,hv];rfl
  have hed:ex d=allE p.defs[d].exp:=by rw [hex];simp [List.getD,List.getElem?_eq_getElem hdl]
  have hlk:=far_look hW hw (no:=H.next) (nl:=H.next+1) (g:=g) (Nat.le_refl _) (by omega) (by omega) _ p.defs[d].exp (Nat.lt_succ_self _) (he d hdl) (HH v) v (hlo v) (hno v) (hnl v)
  have obv:(HH v).obj n=H.obj n:=hlo v n lob
  have ob:=hW.wld.ob
  rw [hst,<- hed] at hlk
  simp [rExp_eq,farC] at hlk
  rw [hv]
  simp [h,hgk,rI]
  refine ⟨by simpa [natI] using h,?_⟩
  refine AW.draw cc [] (.q 6<|.q 0<|.q 1<|.q 2<|.q 3<|.q 4<|.q 5<|.q 7<|.q 8<|.q 9<|.f<|.one 10<|.done) (by kernel_rfl) ?_
  simp [hnl,obv,ob,hdl,List.getElem?_eq_getElem hdl,rDef,rExp_eq,farC]
  refine ⟨⟨by simp [rowN,LV.nb],by rw [hn];omega,by rw [hn];omega,by rw [hn];omega⟩,ECn.of hlk (fun v2 H2 hR _=>?_) (fun x H2 env hR _=>by obtain ⟨⟨_,q⟩,_⟩:=hR;cases q)⟩
  obtain ⟨_,hE⟩:=hR
  rw [hE]
  clear hE
  simp
  exact NX.go (i+1) (by omega) h (by simp [hwi,hv2,rowN])
 ·have:i=g.length:=by omega
  subst this
  rw [List.take_length]
  have hfm:g.foldl (fun v d=>farL p g (ex d) v) 201=farM p g:=by rw [hex];rfl
  rw [hfm]
  refine AW.ev cc ?_
  simp [hno]
  exact fun _=>Drop_same (by rw [hn];omega) (hlo _) hw.none
end Go.Aft
end
section
set_option maxRecDepth 20000
namespace Go.Aft
open Go.Proofs.Tryz
def saysI (l:List Event) (src:Int):List Item:=(l.filter fun e=>decide (e.src=src)).map fun e=>⟨e.rec_,1⟩
def saysM (l:List Event) (src:Int):Bag:=summedM (saysI l src) 200
theorem saysI_snoc (l:List Event) (e:Event) (src:Int):saysI (l ++ [e]) src=saysI l src ++ (if e.src=src then [⟨e.rec_,1⟩] else []):=by
 unfold saysI
 rw [List.filter_append,List.map_append,List.filter_cons]
 by_cases q:e.src=src <;> simp [q]
theorem saysI_len (l:List Event) (src:Int):(saysI l src).length<=l.length:=by
 unfold saysI;rw [List.length_map];exact List.length_filter_le _ _
theorem mean_says (l:List Event) (src:Int) (hl:l.length<=1000):AFun prog 69 [sl (l.map rEvent),lvI src] (bagL (saysM l src)):=by
 intro H
 have cc:=cxK_ok (p:=kds [] [] [])
 refine ECall.bodyN (cxK_ok (p:=kds [] [] [])) func69 rfl call69 (by rw [ntmps69];simp) rfl fun hf hw=>?_
 simp [ntmps69,results69] at hf |-
 refine AW.loopS cc (fun s:Nat × LV × GH=>⟨[(1,lvI src),(5,s.2.1),(8,sl (l.map rEvent)),(9,lvI l.length),(10,lvI s.1)],[],s.2.2⟩) (fun s=>l.length - s.1)
  (fun s=>s.1<=l.length/\AppX 86 4 H s.2.1 ((saysI (l.take s.1) src).map rItem) s.2.2) (0,.d (.k (.slice none 0 0)),H) ⟨⟨Nat.zero_le _,by simpa [saysI] using AppX.nil⟩,by simp⟩ ?_
 rintro ⟨i,y,H2⟩ ⟨hi,happ⟩
 simp only at hi happ
 simp
 refine ⟨fun h=>?_,fun h=>?_⟩
 ·obtain ⟨x,hxe⟩:∃ x,l[i]=x:=⟨_,rfl⟩
  have htk:l.take (i+1)=l.take i ++ [x]:=by rw [<- take_more h,hxe]
  have hw':=wrap_succ (n:=9223372036854775807) (show i < 9223372036854775807 by omega)
  have hsn:=saysI_snoc (l.take i) x src
  rw [<- htk] at hsn
  have hsl:(saysI (l.take i) src).length<=1000:=Nat.le_trans (saysI_len _ _) (by simp;omega)
  simp [h,List.getElem?_eq_getElem h,hxe,rEvent,rRec,happ.plain.all]
  refine ⟨fun q=>?_,fun q=>?_⟩
  ·refine APK.appX (ys:=[rItem ⟨x.rec_,1⟩]) tyE29 rfl tyE86 (by simp) (x:=y) (by simp) happ (by simp [rItem,rowsOf]) (by simp) (rItem_all _) (fun r hr=>by simp only [List.mem_singleton] at hr;subst hr;rfl) (by simp;omega) (by simp) fun x' H3 happ' _ _=>?_
   simp [happ'.plain.all,happ'.only,hw']
   refine NX.go (i+1,x',H3) (by simp only;omega) ⟨h,?_⟩ (by simp [happ'.only])
   rw [hsn,if_pos q,List.map_append];exact happ'
  ·rw [if_neg q,List.append_nil] at hsn
   exact NX.go (i+1,y,H2) (by simp only;omega) ⟨h,by rw [hsn];exact happ⟩ (by simp [happ.only,hw'])
 ·have:i=l.length:=by omega
  subst this
  rw [List.take_length] at happ
  have hsl:=saysI_len l src
  have hsu:=mean_summed (saysI l src) 200 (by omega) (fun x hx=>by obtain ⟨e,_,rfl⟩:=List.mem_map.1 hx;simp)
  simp at hsu
  simp [happ.plain.all]
  refine ⟨happ.nb,EC.afun (AFun.fzA (v:=sl ((summedM (saysI l src) 200).map rItem)) (by simp only [fzs,fz,happ.fz];exact hsu)) ?_⟩
  simp [bagL,saysM]
  exact fun hz=>Drop_same happ.nx happ.ob hw.none
def beforeM (a b:Event):Bool:=decide (a.rec_.at_ < b.rec_.at_ \/ a.rec_.at_=b.rec_.at_/\(a.src < b.src \/ a.src=b.src/\a.id < b.id))
def evN (e:Event):News:=⟨1,e.src,e.id,1,e.rec_⟩
theorem mean_asked1 (e:Event):AFun prog 132 [lv (rEvent e)] (lv (rNews (evN e))):=by
 refine AFun.body (cxK_ok (p:=kds [1] [] [])) func132 rfl call132 (by rw [ntmps132];simp) rfl fun hf H=>?_
 simp [ntmps132,results132,rEvent,rRec,rNews,evN]
theorem mean_before (a b:Event):AFun prog 133 [lv (rEvent a),lv (rEvent b)] (.d (.k (.bool (beforeM a b)))):=by
 refine AFun.body (cxK_ok (p:=kds [2,3] [] [])) func133 rfl call133 (by rw [ntmps133];simp) rfl fun hf H=>?_
 have h:=slices_Compare [a.rec_.at_,a.src,a.id] [b.rec_.at_,b.src,b.id]
 have hr:List.range' 0 3=[0,1,2]:=rfl
 simp [rI] at h
 simp [ntmps133,results133,rEvent,rRec,hr]
 refine EC.afun h ?_
 simp
 rw [Bool.eq_iff_iff]
 simp only [beforeM,decide_eq_true_eq]
 simp only [lexC,cmpI]
 repeat' split
 all_goals omega
theorem rNews_all (l:List News):∀ r ∈ l.map rNews,r.length=7:=fun r hr=>by obtain ⟨_,_,rfl⟩:=List.mem_map.1 hr;rfl
theorem mean_changedN (l:List Event) (hl:l.length<=1000):AFun prog 131 [sl (l.map rEvent),.fn (.func 132) [] []] (sl ((l.map evN).map rNews)):=by
 intro H
 have cc:=cx0_ok
 refine ECall.bodyN cx0_ok func131 rfl call131 (by rw [ntmps131];simp) rfl fun hf hw=>?_
 simp [ntmps131,results131] at hf |-
 refine AW.loopS cc (fun a:Nat × LV × GH=>⟨[(1,.fn (.func 132) [] []),(5,a.2.1),(8,.d (.sl (l.map rEvent))),(9,lvI l.length),(10,lvI a.1)],[],a.2.2⟩) (fun a=>l.length - a.1) (fun a=>a.1<=l.length/\AppX 184 7 H a.2.1 (((l.take a.1).map evN).map rNews) a.2.2) (0,.d (.k (.slice none 0 0)),H) ⟨⟨by simp,.nil⟩,by simp [LV.only,onlys]⟩ ?_
 rintro ⟨i,x,H'⟩ ⟨hi,happ⟩
 simp only at hi happ
 simp
 refine ⟨fun h=>?_,fun h=>?_⟩
 ·have hd:=mean_asked1 l[i]
  simp [rEvent,rRec,rNews] at hd
  simp [h,List.getElem?_eq_getElem h,rEvent,rRec,happ.plain.all]
  refine EC.afun hd ?_
  simp [happ.plain.all]
  refine APK.appX (ys:=[rNews (evN l[i])]) tyE180 rfl tyE184 (by simp) (x:=x) (by simp) happ (by simp [rNews,rRec,rowsOf]) (by simp) (rNews_all _) (fun r hr=>by simp only [List.mem_singleton] at hr;subst hr;rfl) (by simp;omega) (by simp) fun x' H3 happ' _ _=>?_
  rw [show ((l.take i).map evN).map rNews ++ [rNews (evN l[i])]=((l.take (i+1)).map evN).map rNews by rw [<- take_more h,List.map_append,List.map_append];rfl] at happ'
  simp [happ'.plain.all,happ'.only,wrap_succ (n:=9223372036854775807) (show i < 9223372036854775807 by omega)]
  exact NX.go (i+1,x',H3) (by simp only;omega) ⟨h,happ'⟩ (by simp [happ'.only,happ'.plain.all,LV.only,onlys])
 ·have:i=l.length:=by omega
  subst this
  rw [List.take_length] at happ
  simp [happ.plain.all,happ.fz]
  exact fun hz=>Drop_same happ.nx happ.ob hw.none
end Go.Aft
end
section
set_option maxRecDepth 20000
namespace Go.Aft
open Go.Proofs.Tryz
def stepK (p:Prog) (srcs:List Bag) (top:Int) (defs:List Bag) (d:Nat):Option (List Bag):=match expM p ⟨srcs,defs⟩ top (p.defs.getD d default).exp with
 | none=>none
 | some b=>some (defs.set d b)
def passK (p:Prog) (srcs:List Bag) (top:Int):List Nat->List Bag->Option (List Bag)
 | [],defs=>some defs
 | d :: g,defs=>match stepK p srcs top defs d with
  | none=>none
  | some defs'=>passK p srcs top g defs'
def topsK (p:Prog) (srcs:List Bag) (far:Int) (g:List Nat):Nat->Int->List Bag->Option (List Bag)
 | 0,_,defs=>some defs
 | f+1,top,defs=>match passK p srcs top g defs with
  | none=>none
  | some defs'=>if top=200 then some defs' else topsK p srcs far g f (minI (top+far) 200) defs'
def groupK (p:Prog) (srcs:List Bag) (g:List Nat) (defs:List Bag):Option (List Bag):=topsK p srcs (farM p g) g 202 (minI (farM p g - 1) 200) defs
def groupsK (p:Prog) (srcs:List Bag):List (List Nat)->List Bag->Option (List Bag)
 | [],defs=>some defs
 | g :: gs,defs=>match groupK p srcs g defs with
  | none=>none
  | some defs'=>groupsK p srcs gs defs'
def srcsM (p:Prog) (l:List Event):List Bag:=(List.range p.srcs.length).map fun i=>saysM l (i:Nat)
noncomputable def knownM (p:Prog) (l:List Event):Option (List Bag):=groupsK p (srcsM p l) (groupsM p.defs.length (pathB p)) (List.replicate p.defs.length [])
theorem known1_ret (n:Nat) (H:GH) (R:DM->GH->Prop) (h:R .ret H):ADCall prog 137 [.gp n 0] H .ret R:=by
 refine ADCall.of_body cx0_ok func137 rfl call137 rfl rfl rfl (by rw [ntmps137];simp) (by rw [ntmps137];omega) rfl fun hw=>?_
 simp [runX,recV,ntmps137]
 refine EV.sound cx0_ok ?_
 simp [dcallQ,recM]
 exact ⟨H,Drop_same (Nat.le_refl _) (fun _ _=>rfl) hw,h⟩
theorem known1_pan (n:Nat) (c:List LV) (H:GH) (h1:H.obj n=some (.box c)) (hl:c.length=1) (R:DM->GH->Prop)
  (h:R (.rec_ tooMuch) (H.set n (.box [.d (.k (.pointer none))]))):ADCall prog 137 [.gp n 0] H (.pan tooMuch) R:=by
 refine ADCall.of_body cx0_ok func137 rfl call137 rfl rfl rfl (by rw [ntmps137];simp) (by rw [ntmps137];omega) rfl fun hw=>?_
 simp [runX,recV,ntmps137,tooMuch]
 refine EV.sound cx0_ok ?_
 obtain ⟨x,rfl⟩:∃ x,c=[x]:=by
  match c,hl with
  | [x],_=>exact ⟨x,rfl⟩
 simp [dcallQ,recM,h1]
 have lt:∀ n o,H.obj n=some o->n < H.next:=fun n o ho=>by
  rcases Nat.lt_or_ge n H.next with q | q
  ·exact q
  ·rw [hw n q] at ho;cases ho
 exact ⟨_,Drop_set (Drop_id (Nat.le_refl _) hw fun _ _ q=>.inl q) (lt _ _ h1) (by simp [nbs,LV.nb]),h⟩
theorem mean_acts (H:GH):ECall prog 138 [] H fun ce H'=>ce=.ret (.gm H.next)/\H'=H.add (.map actEs):=by
 refine ECall.bodyN cx0_ok func138 rfl call138 (by rw [ntmps138];simp) rfl fun hf hw=>?_
 simp [ntmps138,results138,GH.add_obj,GH.add_next,GH.add_set,KK.has,Sc.has,mput,kEq_int]
 exact fun hz=>hz.drop (by rw [GH.add_next];omega)
end Go.Aft
end
