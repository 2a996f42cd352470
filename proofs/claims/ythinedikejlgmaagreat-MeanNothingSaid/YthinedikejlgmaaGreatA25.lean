import Derived.Test.YthinedikejlgmaaGreatA23
import Derived.Test.YthinedikejlgmaaGreatA24
set_option linter.all false
section
set_option maxRecDepth 20000
namespace Go.Aft
open Go.Proofs.Tryz
mutual
theorem thaw_nb {n g sz N:Nat} {rows:List (List DV)} (h:N<=n):∀ x:LV,x.nb N->x.thaw n g sz rows=x
 | .vs m g' sz' i len,hx=>by
  simp only [LV.nb] at hx
  simp only [LV.thaw]
  rw [if_neg (by rintro ⟨rfl,_⟩;omega)]
 | .fn f first cap,hx=>by simp only [LV.nb] at hx;simp only [LV.thaw,thaws_nb h _ hx.1,thaws_nb h _ hx.2]
 | .agg xs,hx=>by simp only [LV.nb] at hx;simp only [LV.thaw,thaws_nb h _ hx]
 | .tup xs,hx=>by simp only [LV.nb] at hx;simp only [LV.thaw,thaws_nb h _ hx]
 | .gd _ _,_ | .d _,_ | .lp _ _,_ | .gp _ _,_ | .ep _ _ _ _,_ | .osl _ _,_ | .gm _,_ | .vp _ _ _,_ | .yl _,_ | .ip _ _,_ | .any,_=>by simp only [LV.thaw]
theorem thaws_nb {n g sz N:Nat} {rows:List (List DV)} (h:N<=n):∀ xs:List LV,nbs N xs->thaws n g sz rows xs=xs
 | [],_=>by simp only [thaws]
 | x :: xs,hx=>by simp only [nbs] at hx;simp only [thaws,thaw_nb h x hx.1,thaws_nb h xs hx.2]
end
theorem GO.thaw_nb {n g sz N:Nat} {rows:List (List DV)} (h:N<=n) {o:GO} (ho:o.nb N):o.thaw n g sz rows=o:=by
 cases o with
 | box cs=>simp only [GO.nb] at ho;simp only [GO.thaw,thaws_nb h _ ho]
 | vec e g' sz' cells ex=>simp only [GO.nb] at ho;simp only [GO.thaw,thaws_nb h _ ho]
 | _=>rfl
def two (H:GH) (a b:List LV):GH:=⟨fun m=>if m=H.next+1 then some (.box b) else if m=H.next then some (.box a) else H.obj m,H.next+2⟩
@[simp] theorem two_next {H:GH} {a b:List LV}:(two H a b).next=H.next+2:=rfl
@[simp] theorem two_0 {H:GH} {a b:List LV}:(two H a b).obj H.next=some (.box a):=by simp [two]
@[simp] theorem two_1 {H:GH} {a b:List LV}:(two H a b).obj (H.next+1)=some (.box b):=by simp [two]
@[simp] theorem two_set0 {H:GH} {a b c:List LV}:(two H a b).set H.next (.box c)=two H c b:=by
 simp only [two,GH.set];congr 1;funext m;unfold upd;split <;> simp_all
@[simp] theorem two_set1 {H:GH} {a b c:List LV}:(two H a b).set (H.next+1) (.box c)=two H a c:=by
 simp only [two,GH.set];congr 1;funext m;unfold upd;split <;> simp_all
theorem EC.need {P:Program} {f:FuncId} {args:List LV} {H H1:GH} {s:S} {dst:Option Nat} {K:KT} {Q:QT} {b:Prop} [Decidable b] {x:LV} (h:ECall P f args H fun ce H'=>H'=H1/\(if b then ∃ v,ce=.ret v else ce=.pan x))
  (hk:b->∀ v,@AP K (({ s with H:=H1 }:S).put dst v)) (hp:¬ b->Q.q (.pan x) { s with H:=H1 }):@EC P f args H s dst K Q:=by
 refine EC.of h (fun v H' hR=>?_) (fun v H' hR=>?_)
 ·obtain ⟨rfl,hR⟩:=hR
  by_cases hb:b
  ·exact hk hb v
  ·rw [if_neg hb] at hR;cases hR
 ·obtain ⟨rfl,hR⟩:=hR
  by_cases hb:b
  ·rw [if_pos hb] at hR;obtain ⟨_,e⟩:=hR;cases e
  ·rw [if_neg hb] at hR;cases hR;exact hp hb
@[simp] theorem twoA_set0 {H:GH} {a b c:List LV} {o:GO}:((two H a b).add o).set H.next (.box c)=(two H c b).add o:=by
 simp only [two,GH.set,GH.add];congr 1;funext m;unfold upd;split <;> simp_all <;> omega
@[simp] theorem twoA_set1 {H:GH} {a b c:List LV} {o:GO}:((two H a b).add o).set (H.next+1) (.box c)=(two H a c).add o:=by
 simp only [two,GH.set,GH.add];congr 1;funext m;unfold upd;split <;> simp_all <;> omega
@[simp] theorem twoA_set2 {H:GH} {a b:List LV} {o o':GO}:((two H a b).add o).set (H.next+2) o'=(two H a b).add o':=by
 simp only [two,GH.set,GH.add];congr 1;funext m;unfold upd;split <;> simp_all
@[simp] theorem twoA_0 {H:GH} {a b:List LV} {o:GO}:((two H a b).add o).obj H.next=some (.box a):=by simp [two,GH.add,upd]
@[simp] theorem twoA_1 {H:GH} {a b:List LV} {o:GO}:((two H a b).add o).obj (H.next+1)=some (.box b):=by simp [two,GH.add,upd]
@[simp] theorem twoA_2 {H:GH} {a b:List LV} {o:GO}:((two H a b).add o).obj (H.next+2)=some o:=by simp [two,GH.add,upd]
@[simp] theorem twoA_next {H:GH} {a b:List LV} {o:GO}:((two H a b).add o).next=H.next+3:=rfl
theorem flatD_append (a b:List (List DV)):flatD (a ++ b)=flatD a ++ flatD b:=by simp [flatD]
end Go.Aft
end
section
set_option maxRecDepth 20000
namespace Go.Aft
open Go.Proofs.Tryz
theorem GH.set_set {H:GH} {n:Nat} {a b:GO}:(H.set n a).set n b=H.set n b:=by
 simp only [GH.set];congr 1;funext m;simp only [upd];split <;> rfl
theorem GH.set_same {H:GH} {n:Nat} {a:GO}:(H.set n a).obj n=some a:=by simp [GH.set]
theorem term_calc1 (op cn:Int) (kids:List Calc) (other:Bool)
  (ih:∀ k ∈ kids,∀ (n:Nat) (H:GH) (x y z:LV) (ahead nodes depth:Int),H.obj n=some (scp [x,y,z] ahead nodes)->0<=nodes->nodes<=60->0<=depth->depth<=100 ->
   ECall prog 210 [.gp n 0,lv (rCalc k),.d (.k (.bool other)),lvI depth] H fun ce H'=>match lCalc other k depth (60 - nodes) with
    | some l=>(∃ v,ce=.ret v)/\H'=H.set n (scp [x,y,z] ahead (60 - l))
    | none=>ce=.pan unformed/\∃ m,H'=H.set n (scp [x,y,z] ahead m))
  (n:Nat) (H:GH) (x y z:LV) (ahead nodes depth:Int) (hn:H.obj n=some (scp [x,y,z] ahead nodes)) (h0:0<=nodes) (h1:nodes<=60) (hd0:0<=depth) (hd1:depth<=100) :
   ECall prog 210 [.gp n 0,lv (rCalc (.mk op cn kids)),.d (.k (.bool other)),lvI depth] H fun ce H'=>match lCalc other (.mk op cn kids) depth (60 - nodes) with
    | some l=>(∃ v,ce=.ret v)/\H'=H.set n (scp [x,y,z] ahead (60 - l))
    | none=>ce=.pan unformed/\∃ m,H'=H.set n (scp [x,y,z] ahead m):=by
 have cc:=cxK_ok (p:=kds [5] [] [])
 refine ECall.bodyNW (cxK_ok (p:=kds [5] [] [])) func210 rfl call210 (by rw [ntmps210];simp) rfl fun hf hw=>?_
 simp [ntmps210,results210,rCalc_eq,Calc.op,Calc.n,Calc.kids] at hf |-
 have hc:nbs H.next [x,y,z]:=by
  have:=hw.nb n _ hn;simp [scp,GO.nb,nbs,LV.nb] at this |-;exact this
 have hlt:=hw.lt hn
 have hdr:∀ m,nbH (H.set n (scp [x,y,z] ahead m))->Drop H (H.set n (scp [x,y,z] ahead m)) (H.set n (scp [x,y,z] ahead m)):=fun m hz=>hz.drop (by rw [GH.set_next];exact Nat.le_refl _)
 refine AW.seq cc ?_
 simp
 refine AW.seq cc ?_
 simp [hlt]
 refine EC.need (term_one n H x y z ahead nodes depth hn hc h0 (by omega)) (fun hb v=>?_) (fun hb=>?_)
 rotate_left
 ·simp
  refine fun hz=>⟨_,hdr _ hz,by simp [unformed,LV.nb],?_⟩
  rw [lCalc,if_neg (by omega)]
  exact ⟨_,rfl⟩
 have hno:calcOk other op cn kids.length ≠ true->lCalc other (.mk op cn kids) depth (60 - nodes)=none:=fun hq=>by rw [lCalc,if_neg (by rintro ⟨_,_,q⟩;exact hq q)]
 simp
 refine AW.seq cc ?_
 simp
 have hlast:nbH (H.set n (scp [x,y,z] ahead (nodes+1)))->calcOk other op cn kids.length ≠ true->∃ H',Drop H (H.set n (scp [x,y,z] ahead (nodes+1))) H'/\(unformed:LV).nb H'.next/\match lCalc other (.mk op cn kids) depth (60 - nodes) with
    | some l=>False
    | none=>∃ m,H'=H.set n (scp [x,y,z] ahead m):=fun hz hq=>by
  refine ⟨_,hdr _ hz,by simp [unformed,LV.nb],?_⟩
  rw [hno hq];exact ⟨_,rfl⟩
 refine AW.join (c:=cxK (kds [5] [] [])) (fun k:Int=>⟨[(0,.gp n 0),(2,.d (.k (.bool other))),(3,lvI depth),(5,.ip [.d (.k (.int .i64 op)),.d (.k (.int .i64 cn)),.d (.sl (kids.map rCalc))] 0),(8,lvI k)],[],H.set n (scp [x,y,z] ahead (nodes+1))⟩)
  (fun k=>(op=1/\-1000000000<=cn/\cn<=1000000000 \/ op=2 \/ op=3 \/ op=4 \/ op=5/\other=true)/\k=0 \/ 6<=op/\op<=10/\k=2) (AW.ev cc ?_) fun k hk=>?_
 ·have hop:(op=2 \/ op=3 \/ op=4) \/ (op=6 \/ op=7 \/ op=8 \/ op=9 \/ op=10) \/ op=1 \/ op=5 \/ (op < 1 \/ 10 < op):=by omega
  rcases hop with h | h | rfl | rfl | h
  ·rcases h with rfl | rfl | rfl
   all_goals simp;exact JN.go 0 (by simp) (by simp)
  ·rcases h with rfl | rfl | rfl | rfl | rfl
   all_goals simp;exact JN.go 2 (by simp) (by simp)
  ·simp
   refine EC.need (term_must _ _) (fun hb v=>?_) (fun hb=>?_)
   ·simp at hb
    simp
    exact JN.go 0 (by simp;omega) (by simp)
   ·simp at hb
    simp
    refine fun hz=>hlast hz ?_
    simp [calcOk];omega
  ·simp
   refine EC.need (term_must _ _) (fun hb v=>?_) (fun hb=>?_)
   ·simp
    exact JN.go 0 (by simp [hb]) (by simp)
   ·simp
    refine fun hz=>hlast hz ?_
    simp [calcOk,hb]
  ·have e1:op ≠ 1:=by omega
   have e2:op ≠ 2:=by omega
   have e3:op ≠ 3:=by omega
   have e4:op ≠ 4:=by omega
   have e5:op ≠ 5:=by omega
   have e6:op ≠ 6:=by omega
   have e7:op ≠ 7:=by omega
   have e8:op ≠ 8:=by omega
   have e9:op ≠ 9:=by omega
   have e10:op ≠ 10:=by omega
   simp [e1,e2,e3,e4,e5,e6,e7,e8,e9,e10]
   refine EC.need (term_must _ _) (fun hb v=>?_) (fun hb=>?_)
   ·simp at hb
   ·simp
    refine fun hz=>hlast hz ?_
    unfold calcOk
    rw [if_neg e1,if_neg (by omega),if_neg e5]
    simp;omega
 ·refine AW.seq cc ?_
  simp
  refine ⟨fun q=>⟨q,fun q2=>⟨q,q2⟩⟩,EC.need (term_must _ _) (fun hb v=>?_) (fun hb=>?_)⟩
  rotate_left
  ·simp at hb
   simp
   refine fun hz=>hlast hz ?_
   intro hq
   unfold calcOk at hq
   have hn:op ≠ 1->cn ≠ 0->False:=fun q1 q2=>by
    rw [if_neg q1] at hq
    split at hq
    ·exact q2 (of_decide_eq_true hq).1
    ·split at hq
     ·exact q2 (of_decide_eq_true hq).2.1
     ·exact q2 (of_decide_eq_true hq).2.2.1
   have hl:(kids.length:Int)=k:=by
    split at hq
    ·have:=of_decide_eq_true hq;omega
    ·split at hq
     ·have:=of_decide_eq_true hq;omega
     ·split at hq
      ·have:=of_decide_eq_true hq;omega
      ·have:=of_decide_eq_true hq;omega
   have:=hb hl
   exact hn this.1 this.2
  simp at hb
  have hok:calcOk other op cn kids.length=true:=by
   unfold calcOk
   split
   ·exact decide_eq_true (by omega)
   ·split
    ·exact decide_eq_true (by omega)
    ·split
     ·refine decide_eq_true ⟨?_,by omega,by omega⟩
      rcases hk with ⟨h | h | h | h | h,_⟩ | h <;> first | exact h.2 | omega
     ·exact decide_eq_true (by omega)
  have hsp:lCalc other (.mk op cn kids) depth (60 - nodes)=lCalcs other kids (depth+1) (59 - nodes):=by
   rw [lCalc,if_pos ⟨by omega,by omega,hok⟩,show 60 - nodes - 1=59 - nodes by omega]
  rw [hsp]
  simp
  have w1:IntKind.wrap .i64 (depth+1)=depth+1:=by rw [wrap64] <;> omega
  refine AW.ev cc ?_
  simp
  refine AW.loopS cc (fun a:Nat × Int=>⟨[(0,.gp n 0),(2,.d (.k (.bool other))),(3,lvI depth),(59,.d (.sl (kids.map rCalc))),(60,lvI kids.length),(61,lvI a.1)],[],H.set n (scp [x,y,z] ahead (60 - a.2))⟩) (fun a=>kids.length - a.1)
   (fun a=>a.1<=kids.length/\0<=a.2/\a.2<=59 - nodes/\lCalcs other kids (depth+1) (59 - nodes)=lCalcs other (kids.drop a.1) (depth+1) a.2) (0,59 - nodes) ⟨⟨by simp,by simp;omega,by simp,by simp⟩,by simp [show 60 - (59 - nodes)=nodes+1 by omega]⟩ ?_
  rintro ⟨i,left⟩ ⟨hi,hl0,hl1,hI⟩
  simp only at hi hl0 hl1 hI
  simp
  refine ⟨fun h=>?_,fun h=>?_⟩
  ·have hd:=List.drop_eq_getElem_cons h
   rw [hd,lCalcs] at hI
   simp [h,List.getElem?_eq_getElem h,rCalc_eq,hlt,w1,GH.set_next]
   have ih':=ih kids[i] (List.getElem_mem h) n (H.set n (scp [x,y,z] ahead (60 - left))) x y z ahead (60 - left) (depth+1) GH.set_same (by omega) (by omega) (by omega) (by omega)
   rw [show 60 - (60 - left)=left by omega] at ih'
   simp only [GH.set_set,lv_eq,rCalc_eq,List.map_cons,List.map_nil,lvI_eq] at ih'
   refine EC.of ih' (fun v' H' hR=>?_) (fun v' H' hR=>?_)
   ·cases hl:lCalc other kids[i] (depth+1) left with
    | none=>rw [hl] at hR;cases hR.1
    | some l =>
     rw [hl] at hR hI
     have hle:=lCalc_le _ _ _ _ hl
     obtain ⟨_,rfl⟩:=hR
     simp [wrap_succ h hf.1]
     exact NX.go (i+1,l) (by simp;omega) ⟨h,hle.1,by simp only;omega,hI⟩ (by simp)
   ·cases hl:lCalc other kids[i] (depth+1) left with
    | some l=>rw [hl] at hR;obtain ⟨⟨_,q⟩,_⟩:=hR;cases q
    | none =>
     rw [hl] at hR hI
     obtain ⟨q,m,rfl⟩:=hR
     cases q
     simp
     refine fun hz=>⟨_,hdr _ hz,by simp [unformed,LV.nb],?_⟩
     rw [hI];exact ⟨_,rfl⟩
  ·have:kids.drop i=[]:=List.drop_eq_nil_of_le h
   rw [this,lCalcs] at hI
   rw [hI]
   exact fun hz=>⟨_,hdr _ hz,rfl⟩
theorem term_calc (other:Bool):∀ (c:Calc) (n:Nat) (H:GH) (x y z:LV) (ahead nodes depth:Int),H.obj n=some (scp [x,y,z] ahead nodes)->0<=nodes->nodes<=60->0<=depth->depth<=100 ->
   ECall prog 210 [.gp n 0,lv (rCalc c),.d (.k (.bool other)),lvI depth] H fun ce H'=>match lCalc other c depth (60 - nodes) with
    | some l=>(∃ v,ce=.ret v)/\H'=H.set n (scp [x,y,z] ahead (60 - l))
    | none=>ce=.pan unformed/\∃ m,H'=H.set n (scp [x,y,z] ahead m)
 | .mk op cn kids,n,H,x,y,z,ahead,nodes,depth,hn,h0,h1,hd0,hd1=>term_calc1 op cn kids other (fun k hk n H x y z ahead nodes depth hn h0 h1 hd0 hd1=>term_calc other k n H x y z ahead nodes depth hn h0 h1 hd0 hd1) n H x y z ahead nodes depth hn h0 h1 hd0 hd1
end Go.Aft
end
section
set_option maxRecDepth 20000
namespace Go.Aft
open Go.Proofs.Tryz
def kwEs (l:List Str):List (Value × LV):=l.map fun s=>(.string s,.d (.k (.bool true)))
theorem kEq_str {a b:Str}:kEq (.string a) (.string b)=decide (a=b):=by simp [kEq,scEq]
theorem mput_kw:∀ (l:List Str) (s:Str),s ∉ l->mput (.string s) (.d (.k (.bool true))) (kwEs l)=kwEs (l ++ [s])
 | [],s,_=>by simp [mput,kwEs]
 | x :: l,s,h=>by
  have h1:s ≠ x:=fun e=>h (by simp [e])
  have:=mput_kw l s (fun e=>h (by simp [e]))
  simp only [kwEs,List.map_cons,List.cons_append,mput,kEq_str,h1,decide_false,Bool.false_eq_true,if_false] at this |-
  rw [this]
theorem mfind_kw:∀ (l:List Str) (s:Str),mfind (.string s) (kwEs l)=if l.all (fun k=>decide (s ≠ k))=true then none else some (.d (.k (.bool true)))
 | [],s=>by simp [mfind,kwEs]
 | x :: l,s=>by
  have:=mfind_kw l s
  simp only [kwEs,List.map_cons,mfind,kEq_str] at this |-
  by_cases e:s=x
  ·subst e;simp
  ·simp [e];simpa using this
theorem GH.add_set {H:GH} {a b:GO}:(H.add a).set H.next b=H.add b:=by
 simp only [GH.add,GH.set];congr 1;funext m;simp only [upd];split <;> rfl
theorem mfind_kwD (l:List Str) (s:Str):(mfind (.string s) (kwEs l)).getD (.d (.k (.bool false)))=.d (.k (.bool (!l.all fun k=>decide (s ≠ k)))):=by
 rw [mfind_kw]
 split
 ·rename_i h;rw [h];rfl
 ·rename_i h
  cases hb:l.all (fun k=>decide (s ≠ k)) with
  | true=>exact absurd hb h
  | false=>rfl
theorem kw_has' (l:List Str) (a:Value) (b:LV) (hab:(a,b) ∈ kwEs l):(KK.sc Sc.str).has a=true:=by
 simp only [kwEs,List.mem_map] at hab
 obtain ⟨s,_,q⟩:=hab
 cases q;rfl
theorem kwords_get (i:Nat) (h:i < kwords.length):kwords[i] ∉ kwords.take i:=by
 have:∀ i:Fin 34,(kwords.take i.1).all (fun k=>decide (kwords.getD i.1 ⟨#[]⟩ ≠ k))=true:=by decide
 intro hm
 have h1:=this ⟨i,h⟩
 rw [List.all_eq_true] at h1
 have h2:=h1 _ hm
 simp [List.getD,List.getElem?_eq_getElem h] at h2
theorem term_keywords (H:GH):ECall prog 211 [] H fun ce H'=>ce=.ret (.gm H.next)/\H'=H.add (.map (kwEs kwords)):=by
 have cc:=cx0_ok
 refine ECall.bodyN cx0_ok func211 rfl call211 (by rw [ntmps211];simp) rfl fun hf hw=>?_
 have hr:List.range' 0 34=[0,1,2,3,4,5,6,7,8,9,10,11,12,13,14,15,16,17,18,19,20,21,22,23,24,25,26,27,28,29,30,31,32,33]:=rfl
 simp [ntmps211,results211,hr]
 have hk:(DV.sl (kwords.map rS))=DV.sl (kwords.map rS):=rfl
 refine AW.loopS cc (fun i:Nat=>⟨[(1,.gm H.next),(5,.d (.sl (kwords.map rS))),(6,lvI 34),(7,lvI i)],[],H.add (.map (kwEs (kwords.take i)))⟩) (fun i=>34 - i) (fun i=>i<=34) 0 ⟨by simp,by simp [kwEs,kwords,rS]⟩ ?_
 intro i hi
 simp
 refine ⟨fun h=>?_,fun h=>?_⟩
 ·have hi':i < kwords.length:=by simp [kwords];omega
  have hk:∀ (a:Value) (b:LV),(a,b) ∈ kwEs (kwords.take i)->(KK.sc Sc.str).has a=true:=fun a b hab=>by
   simp only [kwEs,List.mem_map] at hab
   obtain ⟨s,_,q⟩:=hab
   cases q;rfl
  have hm:=mput_kw (kwords.take i) kwords[i] (kwords_get i hi')
  rw [take_more hi'] at hm
  simp [hi',List.getElem?_eq_getElem hi',rS,GH.add_obj,GH.add_next,KK.has,Sc.has,hm,wrap_succ (n:=34) (show i < 34 by omega)]
  refine ⟨fun a b hab=>hk a b hab,NX.go (i+1) (by omega) (by omega) (by simp [GH.add_set])⟩
 ·have:i=34:=by omega
  subst this
  have hl:kwords.take 34=kwords:=rfl
  rw [hl]
  exact fun hz=>⟨hz.drop (by simp [GH.add_next]),by simp [GH.add_next]⟩
theorem letters_of {s:Str} (h:∀ j,j < s.size->97<=byteAt s (j:Nat)/\byteAt s (j:Nat)<=122):letters s=true:=by
 simp only [letters,List.all_eq_true,List.mem_range]
 exact fun j hj=>decide_eq_true (h j hj)
theorem letters_not {s:Str} {j:Nat} (hj:j < s.size) (h:byteAt s (j:Nat) < 97 \/ 122 < byteAt s (j:Nat)):letters s=false:=by
 cases hl:letters s with
 | false=>rfl
 | true =>
  simp only [letters,List.all_eq_true,List.mem_range] at hl
  have:=of_decide_eq_true (hl j hj)
  omega
theorem term_Name (s:Str) (hs:strFit s):AFun prog 158 [.d (.k (.string s))] (.d (.k (.bool (nameM s)))):=by
 have cc:=cx0_ok
 unfold strFit at hs
 refine AFun.body cx0_ok func158 rfl call158 (by rw [ntmps158];simp) rfl fun hf H=>?_
 simp [ntmps158,results158]
 refine AW.loopS cc (fun i:Nat=>⟨[(0,.d (.k (.string s))),(5,lvI s.size),(6,lvI i)],[],H⟩) (fun i=>s.size - i) (fun i=>i<=s.size/\∀ j,j < i->97<=byteAt s (j:Nat)/\byteAt s (j:Nat)<=122) 0 (by simp) fun i hi=>?_
 simp
 refine ⟨fun h=>⟨h,fun q=>⟨q,h⟩,fun q=>by simp [nameM,letters_not h q],fun q1 q2=>?_⟩,fun h=>?_⟩
 ·refine NX.go (i+1) (by omega) ⟨h,fun j hj=>?_⟩ (by simp [wrap_succ h (show s.size<=9223372036854775807 by omega)])
  by_cases e:j=i
  ·subst e;exact ⟨q1,q2⟩
  ·exact hi.2 j (by omega)
 ·have hl:letters s=true:=letters_of fun j hj=>hi.2 j (by omega)
  by_cases hc:0 < s.size/\s.size<=8
  ·have h8:(s.size:Int)<=8:=by omega
   have h9:¬ 8 < (s.size:Int):=by omega
   simp [hc.1,h8,h9]
   refine EC.of (term_keywords H) (fun v H' hR=>?_) (fun v H' hR=>?_)
   ·obtain ⟨q,rfl⟩:=hR
    cases q
    simp [hc.1,h8,h9,GH.add_obj,GH.add_next,mfind_kwD]
    refine ⟨⟨rfl,fun a b hab=>kw_has' _ a b hab⟩,?_⟩
    refine ⟨?_,fun n hn e=>by omega⟩
    have h1:1<=s.size:=hc.1
    simp [nameM,h1,hc.2,hl]
   ·cases hR.1
  ·by_cases h0:0 < s.size
   ·have h8:¬ (s.size:Int)<=8:=by omega
    simp [h0,h8,nameM]
    intros;omega
   ·simp [h0,nameM]
    intros;omega
end Go.Aft
end
section
set_option maxRecDepth 20000
namespace Go.Aft
open Go.Proofs.Tryz
def numEs:List Str->Nat->List (Value × LV)
 | [],_=>[]
 | s :: l,i=>(.string s,lvI (i:Int)) :: numEs l (i+1)
theorem mput_num:∀ (l:List Str) (k:Nat) (s:Str),s ∉ l->mput (.string s) (lvI ((k+l.length:Nat):Int)) (numEs l k)=numEs (l ++ [s]) k
 | [],k,s,_=>by simp [mput,numEs]
 | x :: l,k,s,h=>by
  have h1:s ≠ x:=fun e=>h (by simp [e])
  have:=mput_num l (k+1) s (fun e=>h (by simp [e]))
  simp only [numEs,List.cons_append,mput,kEq_str,h1,decide_false,Bool.false_eq_true,if_false]
  rw [<- this];simp only [List.length_cons];rw [show k+(l.length+1)=k+1+l.length by omega]
theorem idx_cons (x:Str) (l:List Str) (s:Str):idx (x :: l) s=if x=s then 0 else if idx l s < 0 then -1 else idx l s+1:=by
 unfold idx
 rw [List.findIdx?_cons]
 by_cases e:x=s
 ·simp [e]
 ·simp only [e,decide_false,Bool.false_eq_true,if_false]
  cases h:List.findIdx? (fun x=>decide (x=s)) l with
  | none=>simp
  | some i=>simp;omega
theorem idx_ge (l:List Str) (s:Str):-1<=idx l s:=by
 unfold idx;split <;> omega
theorem idx_lt (l:List Str) (s:Str):idx l s < l.length:=by
 unfold idx
 split
 ·rename_i i h
  have:=(List.findIdx?_eq_some_iff_getElem.1 h).1
  omega
 ·omega
theorem idx_mem (l:List Str) (s:Str):0<=idx l s ↔ s ∈ l:=by
 unfold idx
 split
 ·rename_i i h
  obtain ⟨h1,h2,_⟩:=List.findIdx?_eq_some_iff_getElem.1 h
  simp only [decide_eq_true_eq] at h2
  exact ⟨fun _=>h2 ▸ List.getElem_mem h1,fun _=>by omega⟩
 ·rename_i h
  rw [List.findIdx?_eq_none_iff] at h
  constructor
  ·intro h0;omega
  ·intro hm;have:=h s hm;simp at this
theorem mfind_num:∀ (l:List Str) (k:Nat) (s:Str),mfind (.string s) (numEs l k)=if idx l s < 0 then none else some (lvI ((k:Int)+idx l s))
 | [],k,s=>by simp [mfind,numEs,idx]
 | x :: l,k,s=>by
  have:=mfind_num l (k+1) s
  simp only [numEs,mfind,kEq_str,this,idx_cons]
  by_cases e:s=x
  ·subst e;simp
  ·have e':¬ x=s:=fun q=>e q.symm
   have hg:=idx_ge l s
   simp only [e,e',decide_false,Bool.false_eq_true,if_false]
   by_cases q:idx l s < 0
   ·simp [q]
   ·rw [if_neg q,if_neg q,if_neg (by omega)]
    rw [show ((k+1:Nat):Int)+idx l s=(k:Int)+(idx l s+1) by omega]
theorem num_has:∀ (l:List Str) (k:Nat),(∀ (a:Value) (b:LV),(a,b) ∈ numEs l k->(KK.sc Sc.str).has a=true)=True
 | [],k=>by simp [numEs]
 | x :: l,k=>by
  have ih:=num_has l (k+1)
  refine eq_true fun a b hab=>?_
  simp only [numEs,List.mem_cons] at hab
  rcases hab with q | q
  ·cases q;rfl
  ·exact (of_eq_true ih) a b q
@[simp] theorem has_str (s:Str):(KK.sc Sc.str).has (.string s)=true:=rfl
def numD (l:List Str) (s:Str):Int:=if idx l s < 0 then 0 else idx l s
theorem num_get (l:List Str) (s:Str):(mfind (.string s) (numEs l 0)).getD (.d (.k (.int .i64 0)))=lvI (numD l s):=by
 rw [mfind_num,numD];split <;> simp
theorem num_some (l:List Str) (s:Str):(mfind (.string s) (numEs l 0)).isSome=decide (0<=idx l s):=by
 rw [mfind_num]
 by_cases h:idx l s < 0
 ·rw [if_pos h];simp;omega
 ·rw [if_neg h];simp;omega
def numOk (l os:List Str):Prop:=∀ i (h:i < l.length),nameM l[i]=true/\l[i] ∉ l.take i/\l[i] ∉ os
theorem term_numbered (l os:List Str) (o:LV) (H:GH) (hl:∀ s ∈ l,strFit s) (ho:o=.d (.k (.map none))/\os=[] \/ ∃ m,o=.gm m/\H.obj m=some (.map (numEs os 0))) :
  ECall prog 155 [sl (l.map rS),o] H fun ce H'=>open Classical in if numOk l os then ce=.ret (.gm H.next)/\H'=H.add (.map (numEs l 0)) else ce=.pan unformed/\H'=H:=by
 have cc:=cx0_ok
 refine ECall.bodyN cx0_ok func155 rfl call155 (by rw [ntmps155];simp) rfl fun hf hw=>?_
 have ho2:∀ s:Str,∀ i:Nat,True:=fun _ _=>trivial
 simp [ntmps155,results155] at hf |-
 have hof:o.only []/\o.un=o:=by
  rcases ho with ⟨rfl,_⟩ | ⟨m,rfl,_⟩ <;> simp [LV.only]
 refine AW.loopS cc (fun i:Nat=>⟨[(1,o),(5,.gm H.next),(13,.d (.sl (l.map rS))),(14,lvI l.length),(15,lvI i)],[],H.add (.map (numEs (l.take i) 0))⟩) (fun i=>l.length - i) (fun i=>i<=l.length/\∀ j (h:j < l.length),j < i->nameM l[j]=true/\l[j] ∉ l.take j/\l[j] ∉ os) 0 ⟨by simp,by simp [numEs,hof]⟩ ?_
 intro i hi
 simp
 have hgo:∀ n,(H.add (.map n)).obj H.next=some (.map n):=fun n=>by simp [GH.add_obj]
 have hdr:∀ n,Drop H (H.add (.map n)) H:=fun n=>Drop_same (by simp [GH.add_next]) (fun m hm=>by rw [GH.add_obj,if_neg (by omega)]) hw.none
 refine ⟨fun h=>?_,fun h=>?_⟩
 ·have hnm:=term_Name l[i] (hl _ (List.getElem_mem h))
  have hput:=mput_num (l.take i) 0 l[i]
  simp only [List.length_take,Nat.min_eq_left (Nat.le_of_lt h),Nat.zero_add,lvI_eq] at hput
  rw [take_more h] at hput
  have hbad:∀ b:Prop,¬ (nameM l[i]=true/\l[i] ∉ l.take i/\l[i] ∉ os)->∃ H',Drop H (H.add (.map (numEs (l.take i) 0))) H'/\(unformed:LV).nb H'.next/\¬ numOk l os/\H'=H:=fun b q=>⟨H,hdr _,by simp [unformed,LV.nb],fun hn=>q (hn i h),rfl⟩
  have hgood:(nameM l[i]=true/\l[i] ∉ l.take i/\l[i] ∉ os)->∀ j (hj:j < l.length),j < i+1->nameM l[j]=true/\l[j] ∉ l.take j/\l[j] ∉ os:=fun q j hj hji=>by
   by_cases e:j=i
   ·subst e;exact q
   ·exact hi.2 j hj (by omega)
  rcases ho with ⟨rfl,rfl⟩ | ⟨m,rfl,hm⟩
  ·simp [h,List.getElem?_eq_getElem h,rS,hgo,num_get,num_some,num_has]
   refine EC.afun hnm ?_
   simp
   refine EC.need (term_must _ _) (fun hb v=>?_) (fun hb=>?_)
   ·simp [idx_mem] at hb
    simp [hgo,hput hb.2,num_has]
    refine NX.go (i+1) (by omega) ⟨h,hgood ⟨hb.1,hb.2,by simp⟩⟩ (by simp [GH.add_set,wrap_succ h hf.1.1])
   ·simp [idx_mem] at hb
    simp
    exact fun hz=>hbad True (fun q=>q.2.1 (hb q.1))
  ·have hm':∀ n,(H.add (.map n)).obj m=some (.map (numEs os 0)):=fun n=>by
    rw [GH.add_obj,if_neg (by have:=hw.lt hm;omega)];exact hm
   have hlt:∀ n,m < (H.add (.map n)).next:=fun n=>by have:=hw.lt hm;rw [GH.add_next];omega
   simp [h,List.getElem?_eq_getElem h,rS,hgo,num_get,num_some,num_has,hm']
   refine EC.afun hnm ?_
   simp
   refine EC.need (term_must _ _) (fun hb v=>?_) (fun hb=>?_)
   ·simp [idx_mem] at hb
    simp [hgo,hput hb.1.2,num_has]
    refine NX.go (i+1) (by omega) ⟨h,hgood ⟨hb.1.1,hb.1.2,hb.2⟩⟩ (by simp [GH.add_set,wrap_succ h hf.1.1,LV.only])
   ·simp [idx_mem] at hb
    simp
    exact fun hz=>hbad True (fun q=>q.2.2 (hb q.1 q.2.1))
 ·have hok:numOk l os:=fun j hj=>hi.2 j hj (by omega)
  have ht:l.take i=l:=List.take_of_length_le h
  refine fun hz=>⟨_,hz.drop (by simp [GH.add_next]),by simp [GH.add_next],hok,by rw [ht]⟩
end Go.Aft
end
section
set_option maxRecDepth 20000
namespace Go.Aft
open Go.Proofs.Tryz
theorem ref02_Has (l:List Str) (s:Str):AFun prog 219 [sl (l.map rS),.d (.k (.string s))] (.d (.k (.bool (decide (0<=idx l s))))):=by
 refine AFun.body cx0_ok func219 rfl call219 (by rw [ntmps219];simp) rfl fun hf H=>?_
 have hi:=ref02_Index l s
 simp at hi
 simp [ntmps219,results219]
 refine EC.afun hi ?_
 simp
theorem ref02_keywords:AFun prog 250 [] (sl (kwords.map rS)):=by
 refine AFun.body cx0_ok func250 rfl call250 (by rw [ntmps250];simp) rfl fun hf H=>?_
 have hr:List.range' 0 34=[0,1,2,3,4,5,6,7,8,9,10,11,12,13,14,15,16,17,18,19,20,21,22,23,24,25,26,27,28,29,30,31,32,33]:=rfl
 simp [ntmps250,results250,hr,kwords,rS]
theorem ref02_Name (s:Str) (hs:strFit s):AFun prog 218 [.d (.k (.string s))] (.d (.k (.bool (nameM s)))):=by
 have cc:=cx0_ok
 unfold strFit at hs
 refine AFun.body cx0_ok func218 rfl call218 (by rw [ntmps218];simp) rfl fun hf H=>?_
 have hk:=ref02_keywords
 have hh:=ref02_Has kwords s
 simp at hk hh
 by_cases hc:0 < s.size/\s.size<=8
 ·have a1:¬ s.size=0:=by omega
  have a2:¬ 8 < (s.size:Int):=by omega
  have a3:¬ (s.size:Int) < 1:=by omega
  have a4:1<=s.size:=by omega
  simp [ntmps218,results218,a1,a2,a3]
  refine EC.afun hk ?_
  simp [a1,a2,a3]
  refine EC.afun hh ?_
  simp [a1,a2,a3]
  refine ⟨fun q=>?_,fun q=>?_⟩
  ·simp [nameM]
   intro _ _ _;exact (idx_mem _ _).1 q
  ·refine AW.loopS cc (fun i:Nat=>⟨[(0,.d (.k (.string s))),(3,lvI i)],[],H⟩) (fun i=>s.size - i) (fun i=>i<=s.size/\∀ j,j < i->97<=byteAt s (j:Nat)/\byteAt s (j:Nat)<=122) 0 (by simp) fun i hi=>?_
   simp
   refine ⟨fun h=>⟨h,fun q=>⟨q,h⟩,fun q=>by simp [nameM,letters_not h q],fun q1 q2=>?_⟩,fun h=>?_⟩
   ·refine NX.go (i+1) (by omega) ⟨h,fun j hj=>?_⟩ (by simp [wrap_succ h (show s.size<=9223372036854775807 by omega)])
    by_cases e:j=i
    ·subst e;exact ⟨q1,q2⟩
    ·exact hi.2 j (by omega)
   ·have hl:letters s=true:=letters_of fun j hj=>hi.2 j (by omega)
    have q':¬ 0<=idx kwords s:=by omega
    simp [nameM,hl,a4,hc.2]
    exact fun x hx e=>q' ((idx_mem _ _).2 (e ▸ hx))
 ·have hnm:nameM s=false:=by
   simp [nameM];intros;omega
  rw [hnm]
  by_cases h0:s.size=0
  ·simp [ntmps218,results218,h0]
  ·have a2:8 < (s.size:Int):=by omega
   have a3:¬ (s.size:Int) < 1:=by omega
   simp [ntmps218,results218,h0,a2,a3]
theorem ref02_DefNames (p:Prog) (hl:p.defs.length<=6):AFun prog 50 [lv (rProg p)] (sl ((defNames p).map rS)):=by
 have cc:=cxK_ok (p:=kds [1] [] [])
 refine AFun.body (cxK_ok (p:=kds [1] [] [])) func50 rfl call50 (by rw [ntmps50];simp) rfl fun hf H=>?_
 simp [ntmps50,results50,rProg] at hf |-
 refine AW.loopS cc (fun a:Nat × LV × GH=>⟨[(1,.ip ((rProg p).map .d) 0),(3,a.2.1),(4,lvI a.1)],[],a.2.2⟩) (fun a=>p.defs.length - a.1) (fun a=>a.1<=p.defs.length/\App 9 1 H a.2.1 (((p.defs.take a.1).map (·.name)).map rS) a.2.2) (0,.d (.k (.slice none 0 0)),H) ⟨⟨by simp,.nil⟩,by simp [rProg]⟩ ?_
 rintro ⟨i,x,H'⟩ ⟨hi,happ⟩
 simp only at hi happ
 simp [rProg]
 by_cases h:i < p.defs.length
 ·have h6:(i:Int)<=6:=by omega
  have h6':¬ 6 < (i:Int):=by omega
  simp [h,h6,h6',List.getElem?_eq_getElem h,rDef,rExp_eq,happ.plain.all]
  refine APK.appMap rS ((p.defs.take i).map (·.name)) [p.defs[i].name] tyE39 rfl tyE9 (by simp) (fun _=>rfl) (x:=x) (by simp) happ (by simp [rS,rowsOf]) (by simp) (by simp;omega) (by simp) fun x' H2 happ'=>?_
  have ht:(p.defs.take i).map (·.name) ++ [p.defs[i].name]=(p.defs.take (i+1)).map (·.name):=by rw [<- take_more h,List.map_append];rfl
  rw [ht] at happ'
  simp [happ'.plain.all,happ'.only,wrap_succ h hf.2.1]
  exact NX.go (i+1,x',H2) (by simp;omega) ⟨h,happ'⟩ (by simp [happ'.only,happ'.plain.all,rProg])
 ·have:i=p.defs.length:=by omega
  subst this
  rw [List.take_length] at happ
  have hz:=happ.fz
  simp [happ.plain.all,hz.1,defNames]
  exact hz.2
open Classical in
theorem ref02_different (l:List Str) (hl:∀ s ∈ l,strFit s):AFun prog 178 [sl (l.map rS)] (.d (.k (.bool (decide (diffM l))))):=by
 have cc:=cx0_ok
 refine AFun.body cx0_ok func178 rfl call178 (by rw [ntmps178];simp) rfl fun hf H=>?_
 simp [ntmps178,results178] at hf |-
 refine AW.loopS cc (fun i:Nat=>⟨[(0,.d (.sl (l.map rS))),(3,lvI i)],[],H⟩) (fun i=>l.length - i) (fun i=>i<=l.length/\∀ j (h:j < l.length),j < i->nameM l[j]=true/\l[j] ∉ l.take j) 0 (by simp) fun i hi=>?_
 simp
 refine ⟨fun h=>?_,fun h=>?_⟩
 ·have hn:=ref02_Name l[i] (hl _ (List.getElem_mem h))
  have hh:=ref02_Has (l.take i) l[i]
  simp at hh
  refine AW.draw cc [(4,.n),(14,.n)] (.q 0<|.q 1<|.q 2<|.q 3<|.q 4<|.q 5<|.q 6<|.q 7<|.q 8<|.q 10<|.q 11<|.q 12<|.q 9<|.q 13<|.q 14<|.q 15<|.done) (by kernel_rfl) ?_
  simp [h,List.getElem?_eq_getElem h,rS]
  refine FC.afun hn ?_
  simp [h,List.getElem?_eq_getElem h,rS]
  refine ⟨fun q=>⟨q,Nat.le_of_lt h⟩,FCg.afun (fun _=>by rw [<- List.map_take] at *;exact hh) ?_⟩
  simp
  refine ⟨fun q hd=>?_,fun q1 q2=>NX.go (i+1) (by omega) ⟨h,fun j hj hji=>?_⟩ (by simp [wrap_succ h hf.1])⟩
  ·have:=hd i h
   rcases q with q | q
   ·rw [this.1] at q;cases q
   ·exact this.2 ((idx_mem _ _).1 q)
  ·by_cases e:j=i
   ·subst e;exact ⟨q1,fun hm=>by have:=(idx_mem _ _).2 hm;omega⟩
   ·exact hi.2 j hj (by omega)
 ·have:diffM l:=fun j hj=>hi.2 j hj (by omega)
  simp [this]
end Go.Aft
end
section
set_option maxRecDepth 20000
namespace Go.Aft
open Go.Proofs.Tryz
def shpA (x:Shp):LV:=.agg [lvI x.calcs,lvI x.kids,.d (.k (.bool x.name)),.d (.k (.bool x.fold)),lvI x.low,lvI x.high]
def shpR:Option Shp->LV
 | some x=>.tup [shpA x,.d (.k (.bool true))]
 | none=>.tup [shpA ⟨0,0,false,false,0,0⟩,.d (.k (.bool false))]
theorem ref02_shapeOf1:AFun prog 220 [lvI 1] (shpR (shpOf 1)):=by
 refine AFun.body cx0_ok func220 rfl call220 (by rw [ntmps220];simp) rfl fun hf H=>?_
 simp [ntmps220,results220,shpOf,shpR,shpA]
theorem ref02_shapeOf2:AFun prog 220 [lvI 2] (shpR (shpOf 2)):=by
 refine AFun.body cx0_ok func220 rfl call220 (by rw [ntmps220];simp) rfl fun hf H=>?_
 simp [ntmps220,results220,shpOf,shpR,shpA]
theorem ref02_shapeOf3:AFun prog 220 [lvI 3] (shpR (shpOf 3)):=by
 refine AFun.body cx0_ok func220 rfl call220 (by rw [ntmps220];simp) rfl fun hf H=>?_
 simp [ntmps220,results220,shpOf,shpR,shpA]
theorem ref02_shapeOf4:AFun prog 220 [lvI 4] (shpR (shpOf 4)):=by
 refine AFun.body cx0_ok func220 rfl call220 (by rw [ntmps220];simp) rfl fun hf H=>?_
 simp [ntmps220,results220,shpOf,shpR,shpA]
theorem ref02_shapeOf5:AFun prog 220 [lvI 5] (shpR (shpOf 5)):=by
 refine AFun.body cx0_ok func220 rfl call220 (by rw [ntmps220];simp) rfl fun hf H=>?_
 simp [ntmps220,results220,shpOf,shpR,shpA]
theorem ref02_shapeOf6:AFun prog 220 [lvI 6] (shpR (shpOf 6)):=by
 refine AFun.body cx0_ok func220 rfl call220 (by rw [ntmps220];simp) rfl fun hf H=>?_
 simp [ntmps220,results220,shpOf,shpR,shpA]
theorem ref02_shapeOf7:AFun prog 220 [lvI 7] (shpR (shpOf 7)):=by
 refine AFun.body cx0_ok func220 rfl call220 (by rw [ntmps220];simp) rfl fun hf H=>?_
 simp [ntmps220,results220,shpOf,shpR,shpA]
theorem ref02_shapeOf8:AFun prog 220 [lvI 8] (shpR (shpOf 8)):=by
 refine AFun.body cx0_ok func220 rfl call220 (by rw [ntmps220];simp) rfl fun hf H=>?_
 simp [ntmps220,results220,shpOf,shpR,shpA]
theorem ref02_shapeOf9:AFun prog 220 [lvI 9] (shpR (shpOf 9)):=by
 refine AFun.body cx0_ok func220 rfl call220 (by rw [ntmps220];simp) rfl fun hf H=>?_
 simp [ntmps220,results220,shpOf,shpR,shpA]
theorem ref02_shapeOf10:AFun prog 220 [lvI 10] (shpR (shpOf 10)):=by
 refine AFun.body cx0_ok func220 rfl call220 (by rw [ntmps220];simp) rfl fun hf H=>?_
 simp [ntmps220,results220,shpOf,shpR,shpA]
theorem ref02_shapeOf11:AFun prog 220 [lvI 11] (shpR (shpOf 11)):=by
 refine AFun.body cx0_ok func220 rfl call220 (by rw [ntmps220];simp) rfl fun hf H=>?_
 simp [ntmps220,results220,shpOf,shpR,shpA]
theorem ref02_shapeOf12:AFun prog 220 [lvI 12] (shpR (shpOf 12)):=by
 refine AFun.body cx0_ok func220 rfl call220 (by rw [ntmps220];simp) rfl fun hf H=>?_
 simp [ntmps220,results220,shpOf,shpR,shpA]
theorem ref02_shapeOf13:AFun prog 220 [lvI 13] (shpR (shpOf 13)):=by
 refine AFun.body cx0_ok func220 rfl call220 (by rw [ntmps220];simp) rfl fun hf H=>?_
 simp [ntmps220,results220,shpOf,shpR,shpA]
theorem ref02_shapeOf14:AFun prog 220 [lvI 14] (shpR (shpOf 14)):=by
 refine AFun.body cx0_ok func220 rfl call220 (by rw [ntmps220];simp) rfl fun hf H=>?_
 simp [ntmps220,results220,shpOf,shpR,shpA]
theorem ref02_shapeOf15:AFun prog 220 [lvI 15] (shpR (shpOf 15)):=by
 refine AFun.body cx0_ok func220 rfl call220 (by rw [ntmps220];simp) rfl fun hf H=>?_
 simp [ntmps220,results220,shpOf,shpR,shpA]
theorem ref02_shapeOfN (op:Int) (h:¬ (1<=op/\op<=15)):AFun prog 220 [lvI op] (shpR (shpOf op)):=by
 refine AFun.body cx0_ok func220 rfl call220 (by rw [ntmps220];simp) rfl fun hf H=>?_
 have hn:shpOf op=none:=by
  unfold shpOf
  repeat (rw [if_neg (by omega)])
 have e1:(op == 1)=false:=by rw [beq_eq_false_iff_ne];omega
 have e2:(op == 2)=false:=by rw [beq_eq_false_iff_ne];omega
 have e3:(op == 3)=false:=by rw [beq_eq_false_iff_ne];omega
 have e4:(op == 4)=false:=by rw [beq_eq_false_iff_ne];omega
 have e5:(op == 5)=false:=by rw [beq_eq_false_iff_ne];omega
 have e6:(op == 6)=false:=by rw [beq_eq_false_iff_ne];omega
 have e7:(op == 7)=false:=by rw [beq_eq_false_iff_ne];omega
 have e8:(op == 8)=false:=by rw [beq_eq_false_iff_ne];omega
 have e9:(op == 9)=false:=by rw [beq_eq_false_iff_ne];omega
 have e10:(op == 10)=false:=by rw [beq_eq_false_iff_ne];omega
 have e11:(op == 11)=false:=by rw [beq_eq_false_iff_ne];omega
 have e12:(op == 12)=false:=by rw [beq_eq_false_iff_ne];omega
 have e13:(op == 13)=false:=by rw [beq_eq_false_iff_ne];omega
 have e14:(op == 14)=false:=by rw [beq_eq_false_iff_ne];omega
 have e15:(op == 15)=false:=by rw [beq_eq_false_iff_ne];omega
 have f1:¬ op=1:=by omega
 have f2:¬ op=2:=by omega
 have f3:¬ op=3:=by omega
 have f4:¬ op=4:=by omega
 have f5:¬ op=5:=by omega
 have f6:¬ op=6:=by omega
 have f7:¬ op=7:=by omega
 have f8:¬ op=8:=by omega
 have f9:¬ op=9:=by omega
 have f10:¬ op=10:=by omega
 have f11:¬ op=11:=by omega
 have f12:¬ op=12:=by omega
 have f13:¬ op=13:=by omega
 have f14:¬ op=14:=by omega
 have f15:¬ op=15:=by omega
 simp [ntmps220,results220,hn,shpR,shpA,f1,f2,f3,f4,f5,f6,f7,f8,f9,f10,f11,f12,f13,f14,f15]
theorem ref02_shapeOf (op:Int):AFun prog 220 [lvI op] (shpR (shpOf op)):=by
 by_cases h:1<=op/\op<=15
 ·have:op=1 \/ op=2 \/ op=3 \/ op=4 \/ op=5 \/ op=6 \/ op=7 \/ op=8 \/ op=9 \/ op=10 \/ op=11 \/ op=12 \/ op=13 \/ op=14 \/ op=15:=by omega
  rcases this with rfl | rfl | rfl | rfl | rfl | rfl | rfl | rfl | rfl | rfl | rfl | rfl | rfl | rfl | rfl
  ·exact ref02_shapeOf1
  ·exact ref02_shapeOf2
  ·exact ref02_shapeOf3
  ·exact ref02_shapeOf4
  ·exact ref02_shapeOf5
  ·exact ref02_shapeOf6
  ·exact ref02_shapeOf7
  ·exact ref02_shapeOf8
  ·exact ref02_shapeOf9
  ·exact ref02_shapeOf10
  ·exact ref02_shapeOf11
  ·exact ref02_shapeOf12
  ·exact ref02_shapeOf13
  ·exact ref02_shapeOf14
  ·exact ref02_shapeOf15
 ·exact ref02_shapeOfN op h
end Go.Aft
end
