import Derived.Test.YthinedikejlgmaaGreatA24
import Derived.Test.YthinedikejlgmaaGreatA23
set_option linter.all false
section
set_option maxRecDepth 20000
namespace Go.Aft
open Go.Proofs.Tryz
def a3e:List Str->Nat->List (Value × LV)
 | [],_=>[]
 | s :: l,i=>(.string s,lvI (i:Int)) :: a3e l (i+1)
theorem d5v:∀ (l:List Str) (k:Nat) (s:Str),s ∉ l->mput (.string s) (lvI ((k+l.length:Nat):Int)) (a3e l k)=a3e (l ++ [s]) k
 | [],k,s,_=>by simp [mput,a3e]
 | x :: l,k,s,h=>by
  have h1:s ≠ x:=fun e=>h (by simp [e])
  have:=d5v l (k+1) s (fun e=>h (by simp [e]))
  simp only [a3e,List.cons_append,mput,a9y,h1,decide_false,Bool.false_eq_true,if_false]
  rw [<- this];simp only [List.length_cons];rw [show k+(l.length+1)=k+1+l.length by omega]
theorem b3i (x:Str) (l:List Str) (s:Str):idx (x :: l) s=if x=s then 0 else if idx l s < 0 then -1 else idx l s+1:=by
 unfold idx
 rw [List.findIdx?_cons]
 by_cases e:x=s
 ·simp [e]
 ·simp only [e,decide_false,Bool.false_eq_true,if_false]
  cases h:List.findIdx? (fun x=>decide (x=s)) l with
  | none=>simp
  | some i=>simp;omega
theorem d6r (l:List Str) (s:Str):-1<=idx l s:=by
 unfold idx;split <;> omega
theorem b9l (l:List Str) (s:Str):idx l s < l.length:=by
 unfold idx
 split
 ·rename_i i h
  have:=(List.findIdx?_eq_some_iff_getElem.1 h).1
  omega
 ·omega
theorem a5x (l:List Str) (s:Str):0<=idx l s ↔ s ∈ l:=by
 unfold idx
 split
 ·rename_i i h
  obtain ⟨h1,h2,_⟩:=List.findIdx?_eq_some_iff_getElem.1 h
  simp only [decide_eq_true_eq] at h2
  exact ⟨fun _=>h2 ▸ List.getElem_mem h1,fun _=>by omega⟩
 ·rename_i h
  rw [List.findIdx?_eq_none_iff] at h
  constructor
  ·intro h0;omega
  ·intro hm;have:=h s hm;simp at this
theorem b8p:∀ (l:List Str) (k:Nat) (s:Str),a1c (.string s) (a3e l k)=if idx l s < 0 then none else some (lvI ((k:Int)+idx l s))
 | [],k,s=>by simp [a1c,a3e,idx]
 | x :: l,k,s=>by
  have:=b8p l (k+1) s
  simp only [a3e,a1c,a9y,this,b3i]
  by_cases e:s=x
  ·subst e;simp
  ·have e':¬ x=s:=fun q=>e q.symm
   have hg:=d6r l s
   simp only [e,e',decide_false,Bool.false_eq_true,if_false]
   by_cases q:idx l s < 0
   ·simp [q]
   ·rw [if_neg q,if_neg q,if_neg (by omega)]
    rw [show ((k+1:Nat):Int)+idx l s=(k:Int)+(idx l s+1) by omega]
theorem a6u:∀ (l:List Str) (k:Nat),(∀ (a:Value) (b:LV),(a,b) ∈ a3e l k->(KK.sc Sc.str).has a=true)=True
 | [],k=>by simp [a3e]
 | x :: l,k=>by
  have ih:=a6u l (k+1)
  refine eq_true fun a b hab=>?_
  simp only [a3e,List.mem_cons] at hab
  rcases hab with q | q
  ·cases q;rfl
  ·exact (of_eq_true ih) a b q
@[simp] theorem has_str (s:Str):(KK.sc Sc.str).has (.string s)=true:=rfl
def numD (l:List Str) (s:Str):Int:=if idx l s < 0 then 0 else idx l s
theorem b2e (l:List Str) (s:Str):(a1c (.string s) (a3e l 0)).getD (.d (.k (.int .i64 0)))=lvI (numD l s):=by
 rw [b8p,numD];split <;> simp
theorem b6t (l:List Str) (s:Str):(a1c (.string s) (a3e l 0)).isSome=decide (0<=idx l s):=by
 rw [b8p]
 by_cases h:idx l s < 0
 ·rw [if_pos h];simp;omega
 ·rw [if_neg h];simp;omega
def d2e (l os:List Str):Prop:=∀ i (h:i < l.length),a5v l[i]=true/\l[i] ∉ l.take i/\l[i] ∉ os
theorem b2p (l os:List Str) (o:LV) (H:GH) (hl:∀ s ∈ l,a2b s) (ho:o=.d (.k (.map none))/\os=[] \/ ∃ m,o=.gm m/\H.obj m=some (.map (a3e os 0))) :
  a0j prog 155 [sl (l.map rS),o] H fun ce H'=>open Classical in if d2e l os then ce=.ret (.gm H.next)/\H'=H.add (.map (a3e l 0)) else ce=.pan unformed/\H'=H:=by
 have cc:=cx0_ok
 refine a0j.a1j cx0_ok func155 rfl call155 (by rw [ntmps155];simp) rfl fun hf hw=>?_
 have ho2:∀ s:Str,∀ i:Nat,True:=fun _ _=>trivial
 simp [ntmps155,results155] at hf |-
 have hof:o.only []/\o.un=o:=by
  rcases ho with ⟨rfl,_⟩ | ⟨m,rfl,_⟩ <;> simp [LV.only]
 refine AW.a0w cc (fun i:Nat=>⟨[(1,o),(5,.gm H.next),(13,.d (.sl (l.map rS))),(14,lvI l.length),(15,lvI i)],[],H.add (.map (a3e (l.take i) 0))⟩) (fun i=>l.length - i) (fun i=>i<=l.length/\∀ j (h:j < l.length),j < i->a5v l[j]=true/\l[j] ∉ l.take j/\l[j] ∉ os) 0 ⟨by simp,by simp [a3e,hof]⟩ ?_
 intro i hi
 simp
 have hgo:∀ n,(H.add (.map n)).obj H.next=some (.map n):=fun n=>by simp [GH.a0b]
 have hdr:∀ n,Drop H (H.add (.map n)) H:=fun n=>a0m (by simp [GH.a0a]) (fun m hm=>by rw [GH.a0b,if_neg (by omega)]) hw.none
 refine ⟨fun h=>?_,fun h=>?_⟩
 ·have hnm:=e1z l[i] (hl _ (List.getElem_mem h))
  have hput:=d5v (l.take i) 0 l[i]
  simp only [List.length_take,Nat.min_eq_left (Nat.le_of_lt h),Nat.zero_add,lvI_eq] at hput
  rw [a0p h] at hput
  have hbad:∀ b:Prop,¬ (a5v l[i]=true/\l[i] ∉ l.take i/\l[i] ∉ os)->∃ H',Drop H (H.add (.map (a3e (l.take i) 0))) H'/\(unformed:LV).nb H'.next/\¬ d2e l os/\H'=H:=fun b q=>⟨H,hdr _,by simp [unformed,LV.nb],fun hn=>q (hn i h),rfl⟩
  have hgood:(a5v l[i]=true/\l[i] ∉ l.take i/\l[i] ∉ os)->∀ j (hj:j < l.length),j < i+1->a5v l[j]=true/\l[j] ∉ l.take j/\l[j] ∉ os:=fun q j hj hji=>by
   by_cases e:j=i
   ·subst e;exact q
   ·exact hi.2 j hj (by omega)
  rcases ho with ⟨rfl,rfl⟩ | ⟨m,rfl,hm⟩
  ·simp [h,List.getElem?_eq_getElem h,rS,hgo,b2e,b6t,a6u]
   refine EC.afun hnm ?_
   simp
   refine EC.need (a2i _ _) (fun hb v=>?_) (fun hb=>?_)
   ·simp [a5x] at hb
    simp [hgo,hput hb.2,a6u]
    refine NX.go (i+1) (by omega) ⟨h,hgood ⟨hb.1,hb.2,by simp⟩⟩ (by simp [GH.a1v,wrap_succ h hf.1.1])
   ·simp [a5x] at hb
    simp
    exact fun hz=>hbad True (fun q=>q.2.1 (hb q.1))
  ·have hm':∀ n,(H.add (.map n)).obj m=some (.map (a3e os 0)):=fun n=>by
    rw [GH.a0b,if_neg (by have:=hw.lt hm;omega)];exact hm
   have hlt:∀ n,m < (H.add (.map n)).next:=fun n=>by have:=hw.lt hm;rw [GH.a0a];omega
   simp [h,List.getElem?_eq_getElem h,rS,hgo,b2e,b6t,a6u,hm']
   refine EC.afun hnm ?_
   simp
   refine EC.need (a2i _ _) (fun hb v=>?_) (fun hb=>?_)
   ·simp [a5x] at hb
    simp [hgo,hput hb.1.2,a6u]
    refine NX.go (i+1) (by omega) ⟨h,hgood ⟨hb.1.1,hb.1.2,hb.2⟩⟩ (by simp [GH.a1v,wrap_succ h hf.1.1,LV.only])
   ·simp [a5x] at hb
    simp
    exact fun hz=>hbad True (fun q=>q.2.2 (hb q.1 q.2.1))
 ·have hok:d2e l os:=fun j hj=>hi.2 j hj (by omega)
  have ht:l.take i=l:=List.take_of_length_le h
  refine fun hz=>⟨_,hz.drop (by simp [GH.a0a]),by simp [GH.a0a],hok,by rw [ht]⟩
end Go.Aft
end
section
set_option maxRecDepth 20000
namespace Go.Aft
open Go.Proofs.Tryz
theorem a9n (l:List Str) (s:Str):AFun prog 219 [sl (l.map rS),.d (.k (.string s))] (.d (.k (.bool (decide (0<=idx l s))))):=by
 refine AFun.body cx0_ok func219 rfl call219 (by rw [ntmps219];simp) rfl fun hf H=>?_
 have hi:=b8b l s
 simp at hi
 simp [ntmps219,results219]
 refine EC.afun hi ?_
 simp
theorem c1e:AFun prog 250 [] (sl (a3i.map rS)):=by
 refine AFun.body cx0_ok func250 rfl call250 (by rw [ntmps250];simp) rfl fun hf H=>?_
 have hr:List.range' 0 34=[0,1,2,3,4,5,6,7,8,9,10,11,12,13,14,15,16,17,18,19,20,21,22,23,24,25,26,27,28,29,30,31,32,33]:=rfl
 simp [ntmps250,results250,hr,a3i,rS]
theorem d9h (s:Str) (hs:a2b s):AFun prog 218 [.d (.k (.string s))] (.d (.k (.bool (a5v s)))):=by
 have cc:=cx0_ok
 unfold a2b at hs
 refine AFun.body cx0_ok func218 rfl call218 (by rw [ntmps218];simp) rfl fun hf H=>?_
 have hk:=c1e
 have hh:=a9n a3i s
 simp at hk hh
 by_cases hc:0 < s.size/\s.size<=8
 ·have a1:¬ s.size=0:=by omega
  have a2:¬ 8 < (s.size:Int):=by omega
  have a3:¬ (s.size:Int) < 1:=by omega
  have a4:1<=s.size:=by omega
  simp [ntmps218,results218,a1,a2,a3]
  refine EC.afun hk ?_
  simp [a1,a2,a3]
  refine EC.afun hh ?_
  simp [a1,a2,a3]
  refine ⟨fun q=>?_,fun q=>?_⟩
  ·simp [a5v]
   intro _ _ _;exact (a5x _ _).1 q
  ·refine AW.a0w cc (fun i:Nat=>⟨[(0,.d (.k (.string s))),(3,lvI i)],[],H⟩) (fun i=>s.size - i) (fun i=>i<=s.size/\∀ j,j < i->97<=byteAt s (j:Nat)/\byteAt s (j:Nat)<=122) 0 (by simp) fun i hi=>?_
   simp
   refine ⟨fun h=>⟨h,fun q=>⟨q,h⟩,fun q=>by simp [a5v,b9b h q],fun q1 q2=>?_⟩,fun h=>?_⟩
   ·refine NX.go (i+1) (by omega) ⟨h,fun j hj=>?_⟩ (by simp [wrap_succ h (show s.size<=9223372036854775807 by omega)])
    by_cases e:j=i
    ·subst e;exact ⟨q1,q2⟩
    ·exact hi.2 j (by omega)
   ·have hl:letters s=true:=c2t fun j hj=>hi.2 j (by omega)
    have q':¬ 0<=idx a3i s:=by omega
    simp [a5v,hl,a4,hc.2]
    exact fun x hx e=>q' ((a5x _ _).2 (e ▸ hx))
 ·have hnm:a5v s=false:=by
   simp [a5v];intros;omega
  rw [hnm]
  by_cases h0:s.size=0
  ·simp [ntmps218,results218,h0]
  ·have a2:8 < (s.size:Int):=by omega
   have a3:¬ (s.size:Int) < 1:=by omega
   simp [ntmps218,results218,h0,a2,a3]
theorem b1p (p:Prog) (hl:p.defs.length<=6):AFun prog 50 [lv (a0h p)] (sl ((a0d p).map rS)):=by
 have cc:=a0g (p:=kds [1] [] [])
 refine AFun.body (a0g (p:=kds [1] [] [])) func50 rfl call50 (by rw [ntmps50];simp) rfl fun hf H=>?_
 simp [ntmps50,results50,a0h] at hf |-
 refine AW.a0w cc (fun a:Nat × LV × GH=>⟨[(1,.ip ((a0h p).map .d) 0),(3,a.2.1),(4,lvI a.1)],[],a.2.2⟩) (fun a=>p.defs.length - a.1) (fun a=>a.1<=p.defs.length/\App 9 1 H a.2.1 (((p.defs.take a.1).map (·.name)).map rS) a.2.2) (0,.d (.k (.slice none 0 0)),H) ⟨⟨by simp,.nil⟩,by simp [a0h]⟩ ?_
 rintro ⟨i,x,H'⟩ ⟨hi,happ⟩
 simp only at hi happ
 simp [a0h]
 by_cases h:i < p.defs.length
 ·have h6:(i:Int)<=6:=by omega
  have h6':¬ 6 < (i:Int):=by omega
  simp [h,h6,h6',List.getElem?_eq_getElem h,rDef,a0c,happ.plain.all]
  refine APK.d0d rS ((p.defs.take i).map (·.name)) [p.defs[i].name] tyE39 rfl tyE9 (by simp) (fun _=>rfl) (x:=x) (by simp) happ (by simp [rS,rowsOf]) (by simp) (by simp;omega) (by simp) fun x' H2 happ'=>?_
  have ht:(p.defs.take i).map (·.name) ++ [p.defs[i].name]=(p.defs.take (i+1)).map (·.name):=by rw [<- a0p h,List.map_append];rfl
  rw [ht] at happ'
  simp [happ'.plain.all,happ'.only,wrap_succ h hf.2.1]
  exact NX.go (i+1,x',H2) (by simp;omega) ⟨h,happ'⟩ (by simp [happ'.only,happ'.plain.all,a0h])
 ·have:i=p.defs.length:=by omega
  subst this
  rw [List.take_length] at happ
  have hz:=happ.fz
  simp [happ.plain.all,hz.1,a0d]
  exact hz.2
open Classical in
theorem b7y (l:List Str) (hl:∀ s ∈ l,a2b s):AFun prog 178 [sl (l.map rS)] (.d (.k (.bool (decide (b5a l))))):=by
 have cc:=cx0_ok
 refine AFun.body cx0_ok func178 rfl call178 (by rw [ntmps178];simp) rfl fun hf H=>?_
 simp [ntmps178,results178] at hf |-
 refine AW.a0w cc (fun i:Nat=>⟨[(0,.d (.sl (l.map rS))),(3,lvI i)],[],H⟩) (fun i=>l.length - i) (fun i=>i<=l.length/\∀ j (h:j < l.length),j < i->a5v l[j]=true/\l[j] ∉ l.take j) 0 (by simp) fun i hi=>?_
 simp
 refine ⟨fun h=>?_,fun h=>?_⟩
 ·have hn:=d9h l[i] (hl _ (List.getElem_mem h))
  have hh:=a9n (l.take i) l[i]
  simp at hh
  refine AW.draw cc [(4,.n),(14,.n)] (.q 0<|.q 1<|.q 2<|.q 3<|.q 4<|.q 5<|.q 6<|.q 7<|.q 8<|.q 10<|.q 11<|.q 12<|.q 9<|.q 13<|.q 14<|.q 15<|.done) (by kernel_rfl) ?_
  simp [h,List.getElem?_eq_getElem h,rS]
  refine FC.afun hn ?_
  simp [h,List.getElem?_eq_getElem h,rS]
  refine ⟨fun q=>⟨q,Nat.le_of_lt h⟩,FCg.afun (fun _=>by rw [<- List.map_take] at *;exact hh) ?_⟩
  simp
  refine ⟨fun q hd=>?_,fun q1 q2=>NX.go (i+1) (by omega) ⟨h,fun j hj hji=>?_⟩ (by simp [wrap_succ h hf.1])⟩
  ·have:=hd i h
   rcases q with q | q
   ·rw [this.1] at q;cases q
   ·exact this.2 ((a5x _ _).1 q)
  ·by_cases e:j=i
   ·subst e;exact ⟨q1,fun hm=>by have:=(a5x _ _).2 hm;omega⟩
   ·exact hi.2 j hj (by omega)
 ·have:b5a l:=fun j hj=>hi.2 j hj (by omega)
  simp [this]
end Go.Aft
end
section
set_option maxRecDepth 20000
namespace Go.Aft
open Go.Proofs.Tryz
def shpA (x:Shp):LV:=.agg [lvI x.a0k,lvI x.kids,.d (.k (.bool x.name)),.d (.k (.bool x.fold)),lvI x.low,lvI x.high]
def shpR:Option Shp->LV
 | some x=>.tup [shpA x,.d (.k (.bool true))]
 | none=>.tup [shpA ⟨0,0,false,false,0,0⟩,.d (.k (.bool false))]
theorem c1d:AFun prog 220 [lvI 1] (shpR (a1l 1)):=by
 refine AFun.body cx0_ok func220 rfl call220 (by rw [ntmps220];simp) rfl fun hf H=>?_
 simp [ntmps220,results220,a1l,shpR,shpA]
theorem c1c:AFun prog 220 [lvI 2] (shpR (a1l 2)):=by
 refine AFun.body cx0_ok func220 rfl call220 (by rw [ntmps220];simp) rfl fun hf H=>?_
 simp [ntmps220,results220,a1l,shpR,shpA]
theorem c1b:AFun prog 220 [lvI 3] (shpR (a1l 3)):=by
 refine AFun.body cx0_ok func220 rfl call220 (by rw [ntmps220];simp) rfl fun hf H=>?_
 simp [ntmps220,results220,a1l,shpR,shpA]
theorem c0z:AFun prog 220 [lvI 4] (shpR (a1l 4)):=by
 refine AFun.body cx0_ok func220 rfl call220 (by rw [ntmps220];simp) rfl fun hf H=>?_
 simp [ntmps220,results220,a1l,shpR,shpA]
theorem c0y:AFun prog 220 [lvI 5] (shpR (a1l 5)):=by
 refine AFun.body cx0_ok func220 rfl call220 (by rw [ntmps220];simp) rfl fun hf H=>?_
 simp [ntmps220,results220,a1l,shpR,shpA]
theorem c0x:AFun prog 220 [lvI 6] (shpR (a1l 6)):=by
 refine AFun.body cx0_ok func220 rfl call220 (by rw [ntmps220];simp) rfl fun hf H=>?_
 simp [ntmps220,results220,a1l,shpR,shpA]
theorem c0w:AFun prog 220 [lvI 7] (shpR (a1l 7)):=by
 refine AFun.body cx0_ok func220 rfl call220 (by rw [ntmps220];simp) rfl fun hf H=>?_
 simp [ntmps220,results220,a1l,shpR,shpA]
theorem c0u:AFun prog 220 [lvI 8] (shpR (a1l 8)):=by
 refine AFun.body cx0_ok func220 rfl call220 (by rw [ntmps220];simp) rfl fun hf H=>?_
 simp [ntmps220,results220,a1l,shpR,shpA]
theorem c0t:AFun prog 220 [lvI 9] (shpR (a1l 9)):=by
 refine AFun.body cx0_ok func220 rfl call220 (by rw [ntmps220];simp) rfl fun hf H=>?_
 simp [ntmps220,results220,a1l,shpR,shpA]
theorem b7x:AFun prog 220 [lvI 10] (shpR (a1l 10)):=by
 refine AFun.body cx0_ok func220 rfl call220 (by rw [ntmps220];simp) rfl fun hf H=>?_
 simp [ntmps220,results220,a1l,shpR,shpA]
theorem b7w:AFun prog 220 [lvI 11] (shpR (a1l 11)):=by
 refine AFun.body cx0_ok func220 rfl call220 (by rw [ntmps220];simp) rfl fun hf H=>?_
 simp [ntmps220,results220,a1l,shpR,shpA]
theorem b7v:AFun prog 220 [lvI 12] (shpR (a1l 12)):=by
 refine AFun.body cx0_ok func220 rfl call220 (by rw [ntmps220];simp) rfl fun hf H=>?_
 simp [ntmps220,results220,a1l,shpR,shpA]
theorem b7u:AFun prog 220 [lvI 13] (shpR (a1l 13)):=by
 refine AFun.body cx0_ok func220 rfl call220 (by rw [ntmps220];simp) rfl fun hf H=>?_
 simp [ntmps220,results220,a1l,shpR,shpA]
theorem b7t:AFun prog 220 [lvI 14] (shpR (a1l 14)):=by
 refine AFun.body cx0_ok func220 rfl call220 (by rw [ntmps220];simp) rfl fun hf H=>?_
 simp [ntmps220,results220,a1l,shpR,shpA]
theorem b7s:AFun prog 220 [lvI 15] (shpR (a1l 15)):=by
 refine AFun.body cx0_ok func220 rfl call220 (by rw [ntmps220];simp) rfl fun hf H=>?_
 simp [ntmps220,results220,a1l,shpR,shpA]
theorem c0s (op:Int) (h:¬ (1<=op/\op<=15)):AFun prog 220 [lvI op] (shpR (a1l op)):=by
 refine AFun.body cx0_ok func220 rfl call220 (by rw [ntmps220];simp) rfl fun hf H=>?_
 have hn:a1l op=none:=by
  unfold a1l
  repeat (rw [if_neg (by omega)])
 have e1:(op == 1)=false:=by rw [beq_eq_false_iff_ne];omega
 have e2:(op == 2)=false:=by rw [beq_eq_false_iff_ne];omega
 have e3:(op == 3)=false:=by rw [beq_eq_false_iff_ne];omega
 have e4:(op == 4)=false:=by rw [beq_eq_false_iff_ne];omega
 have e5:(op == 5)=false:=by rw [beq_eq_false_iff_ne];omega
 have e6:(op == 6)=false:=by rw [beq_eq_false_iff_ne];omega
 have e7:(op == 7)=false:=by rw [beq_eq_false_iff_ne];omega
 have e8:(op == 8)=false:=by rw [beq_eq_false_iff_ne];omega
 have e9:(op == 9)=false:=by rw [beq_eq_false_iff_ne];omega
 have e10:(op == 10)=false:=by rw [beq_eq_false_iff_ne];omega
 have e11:(op == 11)=false:=by rw [beq_eq_false_iff_ne];omega
 have e12:(op == 12)=false:=by rw [beq_eq_false_iff_ne];omega
 have e13:(op == 13)=false:=by rw [beq_eq_false_iff_ne];omega
 have e14:(op == 14)=false:=by rw [beq_eq_false_iff_ne];omega
 have e15:(op == 15)=false:=by rw [beq_eq_false_iff_ne];omega
 have f1:¬ op=1:=by omega
 have f2:¬ op=2:=by omega
 have f3:¬ op=3:=by omega
 have f4:¬ op=4:=by omega
 have f5:¬ op=5:=by omega
 have f6:¬ op=6:=by omega
 have f7:¬ op=7:=by omega
 have f8:¬ op=8:=by omega
 have f9:¬ op=9:=by omega
 have f10:¬ op=10:=by omega
 have f11:¬ op=11:=by omega
 have f12:¬ op=12:=by omega
 have f13:¬ op=13:=by omega
 have f14:¬ op=14:=by omega
 have f15:¬ op=15:=by omega
 simp [ntmps220,results220,hn,shpR,shpA,f1,f2,f3,f4,f5,f6,f7,f8,f9,f10,f11,f12,f13,f14,f15]
theorem c4p (op:Int):AFun prog 220 [lvI op] (shpR (a1l op)):=by
 by_cases h:1<=op/\op<=15
 ·have:op=1 \/ op=2 \/ op=3 \/ op=4 \/ op=5 \/ op=6 \/ op=7 \/ op=8 \/ op=9 \/ op=10 \/ op=11 \/ op=12 \/ op=13 \/ op=14 \/ op=15:=by omega
  rcases this with rfl | rfl | rfl | rfl | rfl | rfl | rfl | rfl | rfl | rfl | rfl | rfl | rfl | rfl | rfl
  ·exact c1d
  ·exact c1c
  ·exact c1b
  ·exact c0z
  ·exact c0y
  ·exact c0x
  ·exact c0w
  ·exact c0u
  ·exact c0t
  ·exact b7x
  ·exact b7w
  ·exact b7v
  ·exact b7u
  ·exact b7t
  ·exact b7s
 ·exact c0s op h
end Go.Aft
end
section
set_option maxRecDepth 20000
namespace Go.Aft
open Go.Proofs.Tryz
theorem d6q:∀ (l:List Str) (a:Nat) (s:Str),(0<=idx (l.take a) s ↔ 0<=idx l s/\idx l s < a)
 | [],a,s=>by simp [idx]
 | x :: l,0,s=>by
  have:=d6r (x :: l) s
  constructor
  ·intro h;simp [idx] at h
  ·intro h;omega
 | x :: l,a+1,s=>by
  have ih:=d6q l a s
  have h1:=d6r l s
  have h2:=d6r (l.take a) s
  rw [List.take_succ_cons,b3i,b3i]
  by_cases e:x=s
  ·simp [e]
  ·simp only [e,if_false]
   split <;> split <;> omega
def b4s (srcs defs:List Str) (ahead:Int):LV:=.agg [.d (.sl (srcs.map rS)),.d (.sl (defs.map rS)),lvI ahead]
theorem d9g (op en fold:Int) (name:Str) (a0k:List Calc) (kids:List Exp) (srcs defs:List Str) (ahead:Nat) (ha:ahead<=defs.length)
  (ih:∀ k ∈ kids,∀ depth left:Int,0<=depth->left<=1000->AFun prog 179 [b4s srcs defs ahead,lv (rExp k),lvI depth,lvI left] (lvI (cntV (lExp srcs defs ahead k depth left) left)))
  (depth left:Int) (hd:0<=depth) (hl:left<=1000):AFun prog 179 [b4s srcs defs ahead,lv (rExp (.mk op name en fold a0k kids)),lvI depth,lvI left] (lvI (cntV (lExp srcs defs ahead (.mk op name en fold a0k kids) depth left) left)):=by
 have cc:=a0g (p:=kds [4,5] [] [])
 refine AFun.d3w (a0g (p:=kds [4,5] [] [])) func179 rfl call179 (by rw [ntmps179];simp) rfl fun hf H=>?_
 have hsh:=c4p op
 simp [ntmps179,results179,a0c,b4s] at hf |-
 refine AW.seq cc ?_
 simp
 refine AW.seq cc ?_
 simp
 refine EC.afun hsh ?_
 obtain ⟨R,hR⟩:∃ R,lExp srcs defs ahead (.mk op name en fold a0k kids) depth left=R:=⟨_,rfl⟩
 rw [hR]
 have hno:¬ (depth<=10/\1<=left/\a6x op name en fold a0k.length kids.length=true/\a2l srcs defs ahead op name=true)->R=none:=fun q=>by rw [<- hR,lExp,if_neg q]
 cases hs:a1l op with
 | none =>
  rw [hno (by rintro ⟨_,_,q,_⟩;obtain ⟨x,hx,_⟩:=c9n q;rw [hs] at hx;cases hx)]
  simp [shpR,shpA]
  refine AW.ev cc ?_
  simp [cntV]
 | some y =>
  have hnn:decide (name ≠ a1q) = !decide (name = { data:=#[] }):=by
   rw [decide_not];rfl
  obtain ⟨yk,yc,yn,yf,ylo,yhi⟩:=y
  have hE:a6x op name en fold a0k.length kids.length=true ↔ ((a0k.length:Int)=yc/\(kids.length:Int)=yk/\(yn = !decide (name = { data:=#[] }))/\ylo<=en/\en<=yhi)/\(if yf=true then 1<=fold/\fold<=4 else fold=0):=by
   unfold a6x
   rw [hs]
   simp only [hnn,Bool.and_eq_true,decide_eq_true_eq,beq_iff_eq]
   cases yf
   ·simp only [Bool.false_eq_true,if_false,decide_eq_true_eq]
    constructor
    ·rintro ⟨⟨⟨⟨a,b⟩,c⟩,d,e⟩,f⟩;exact ⟨⟨b,a,c,d,e⟩,f⟩
    ·rintro ⟨⟨a,b,c,d,e⟩,f⟩;exact ⟨⟨⟨⟨b,a⟩,c⟩,d,e⟩,f⟩
   ·simp only [if_true,decide_eq_true_eq]
    constructor
    ·rintro ⟨⟨⟨⟨a,b⟩,c⟩,d,e⟩,f⟩;exact ⟨⟨b,a,c,d,e⟩,f⟩
    ·rintro ⟨⟨a,b,c,d,e⟩,f⟩;exact ⟨⟨⟨⟨b,a⟩,c⟩,d,e⟩,f⟩
  simp [shpR,shpA]
  refine AW.seq cc ?_
  simp
  by_cases hg:depth<=10/\1<=left/\(a0k.length:Int)=yc/\(kids.length:Int)=yk/\(yn = !decide (name = { data:=#[] }))
  rotate_left
  ·have hz:(bif decide (10 < depth) || decide (left < 1) || (a0k.length:Int) != yc || (kids.length:Int) != yk || !yn == !decide (name = { data:=#[] }) then LV.d (DV.k (Value.bool true)) else LV.any)=.d (.k (.bool true)):=by
    rw [show (decide (10 < depth) || decide (left < 1) || (a0k.length:Int) != yc || (kids.length:Int) != yk || !yn == !decide (name = { data:=#[] }))=true from ?_]
    ·rfl
    ·cases hb:(decide (10 < depth) || decide (left < 1) || (a0k.length:Int) != yc || (kids.length:Int) != yk || !yn == !decide (name = { data:=#[] })) with
     | true=>rfl
     | false =>
      exfalso
      simp at hb
      obtain ⟨⟨⟨⟨a,b⟩,c⟩,d⟩,e⟩:=hb
      refine hg ⟨a,b,c,d,?_⟩
      revert e
      cases yn <;> simp
   refine ⟨fun q1 q2 q3 q4 q5=>absurd ⟨q1,q2,q3,q4,q5⟩ hg,fun _=>⟨fun q1 q2 q3 q4 q5=>absurd ⟨q1,q2,q3,q4,q5⟩ hg,?_⟩⟩
   rw [hz]
   have hq:R=none:=hno fun q=>by
    obtain ⟨q1,q2,q3,_⟩:=q
    have:=(hE.1 q3).1
    exact hg ⟨q1,q2,this.1,this.2.1,this.2.2.1⟩
   simp [hq,cntV]
  obtain ⟨g1,g2,g3,g4,g5⟩:=hg
  refine ⟨fun _ _ _ _ _=>⟨⟨⟨⟨⟨g1,g2⟩,g3⟩,g4⟩,g5⟩,EC.afun (c4q _ _ _) ?_⟩,fun q=>?_⟩
  rotate_left
  ·exfalso
   have:=q g1 g2 g3 g4
   rw [g5] at this;simp at this
  subst g5
  have b1:decide (10 < depth)=false:=by rw [decide_eq_false_iff_not];omega
  have b2:decide (left < 1)=false:=by rw [decide_eq_false_iff_not];omega
  have b3:((a0k.length:Int) != yc)=false:=by rw [bne_eq_false_iff_eq];exact g3
  have b4:((kids.length:Int) != yk)=false:=by rw [bne_eq_false_iff_eq];exact g4
  simp [b1,b2,b3,b4]
  refine ⟨fun q=>?_,fun r1 r2=>?_⟩
  ·rw [hno fun q2=>by have:=(hE.1 q2.2.2.1).1;omega]
   simp [cntV]
  obtain ⟨yn,hyn⟩:∃ yn,(!decide (name = { data:=#[] }))=yn:=⟨_,rfl⟩
  rw [hyn]
  refine AW.join (c:=cxK (kds [4,5] [] [])) (fun _:Unit=>⟨[(2,lvI depth),(3,lvI left),(4,.ip [.d (.sl (srcs.map rS)),.d (.sl (defs.map rS)),lvI ahead] 0),(5,.ip ((rExp (.mk op name en fold a0k kids)).map .d) 0),(9,.lp 9 0),(10,.d (.k (.bool true)))],[(9,[lvI yc,lvI yk,.d (.k (.bool yn)),.d (.k (.bool yf)),lvI ylo,lvI yhi])],H⟩)
   (fun _=>a6x op name en fold a0k.length kids.length=true) (AW.ev cc ?_) fun _ hok=>?_
  ·cases yf with
   | true =>
    simp
    refine EC.afun (c4q _ _ _) ?_
    simp
    refine ⟨fun q=>?_,fun q1 q2=>?_⟩
    ·rw [hno fun q2=>by have:=(hE.1 q2.2.2.1).2;simp at this;omega]
     simp [cntV]
    ·exact JN.go () (hE.2 ⟨⟨g3,g4,rfl,r1,r2⟩,by simp;omega⟩) (by simp [a0c])
   | false =>
    simp
    refine ⟨fun q=>?_,fun q=>?_⟩
    ·rw [hno fun q2=>by have:=(hE.1 q2.2.2.1).2;simp at this;omega]
     simp [cntV]
    ·exact JN.go () (hE.2 ⟨⟨g3,g4,rfl,r1,r2⟩,by simp;omega⟩) (by simp [a0c])
  refine AW.join (c:=cxK (kds [4,5] [] [])) (fun b:Bool=>⟨[(2,lvI depth),(3,lvI left),(4,.ip [.d (.sl (srcs.map rS)),.d (.sl (defs.map rS)),lvI ahead] 0),(5,.ip ((rExp (.mk op name en fold a0k kids)).map .d) 0),(9,.lp 9 0),(10,.d (.k (.bool b)))],[(9,[lvI yc,lvI yk,.d (.k (.bool yn)),.d (.k (.bool yf)),lvI ylo,lvI yhi])],H⟩)
   (fun b=>b=a2l srcs defs ahead op name) (AW.ev cc ?_) fun b hb=>?_
  ·have hop:op=1 \/ op=2 \/ op=3 \/ (op ≠ 1/\op ≠ 2/\op ≠ 3):=by omega
   rcases hop with rfl | rfl | rfl | ⟨n1,n2,n3⟩
   ·simp [a0c]
    refine EC.afun (by simpa using a9n srcs name) ?_
    simp
    exact JN.go (decide (0<=idx srcs name)) (by simp [a2l]) (by simp [a0c])
   ·simp [a0c]
    refine AW.draw cc [(7,.n)] (.q 0<|.q 2<|.q 5<|.q 1<|.q 3<|.q 4<|.q 6<|.q 7<|.q 8<|.done) (by kernel_rfl) ?_
    simp
    refine ⟨ha,FC.afun (by simpa [List.map_take] using a9n (defs.take ahead) name) ?_⟩
    simp
    exact JN.go (decide (0<=idx (defs.take ahead) name)) (by simp [a2l,d6q]) (by simp [a0c])
   ·simp [a0c]
    refine EC.afun (by simpa using a9n defs name) ?_
    simp
    exact JN.go (decide (0<=idx defs name)) (by simp [a2l]) (by simp [a0c])
   ·simp [n1,n2,n3,a0c]
    exact JN.go true (by simp [a2l,n1,n2,n3]) (by simp [a0c])
  have hsp:a2l srcs defs ahead op name=true->R=match a1m (decide (op=12 \/ op=13)) a0k 1 (left - 1) with
   | some l=>a3q srcs defs ahead kids (depth+1) l
   | none=>none:=fun q=>by
   rw [<- hR,lExp,if_pos ⟨g1,g2,hok,q⟩]
   cases a1m (decide (op=12 \/ op=13)) a0k 1 (left - 1) <;> rfl
  obtain ⟨ob,hob⟩:∃ ob,decide (op=12 \/ op=13)=ob:=⟨_,rfl⟩
  have ho:(op == 12 || op == 13)=ob:=by
   rw [<- hob,Bool.eq_iff_iff];simp
  rw [hob] at hsp
  have w1:IntKind.wrap .i64 (depth+1)=depth+1:=by rw [wrap64] <;> omega
  refine AW.seq cc ?_
  simp [a0c]
  refine AW.join (c:=cxK (kds [4,5] [] [])) (fun a:Int × Bool=>⟨[(2,lvI depth),(3,lvI left),(4,.ip [.d (.sl (srcs.map rS)),.d (.sl (defs.map rS)),lvI ahead] 0),(5,.ip ((rExp (.mk op name en fold a0k kids)).map .d) 0),(9,.lp 9 0),(10,.d (.k (.bool a.2))),(11,lvI a.1)],[(9,[lvI yc,lvI yk,.d (.k (.bool yn)),.d (.k (.bool yf)),lvI ylo,lvI yhi])],H⟩)
   (fun a=>(a.2=true->1<=a.1/\a.1<=left/\R=a3q srcs defs ahead kids (depth+1) (left - a.1))/\(a.2=false->R=none)) (AW.ev cc ?_) fun a hI=>?_
  ·simp [a0c]
   refine AW.a0w cc (fun a:Nat × Int × Bool=>⟨[(2,lvI depth),(3,lvI left),(4,.ip [.d (.sl (srcs.map rS)),.d (.sl (defs.map rS)),lvI ahead] 0),(5,.ip ((rExp (.mk op name en fold a0k kids)).map .d) 0),(9,.lp 9 0),(10,.d (.k (.bool a.2.2))),(11,lvI a.2.1),(12,lvI a.1)],[(9,[lvI yc,lvI yk,.d (.k (.bool yn)),.d (.k (.bool yf)),lvI ylo,lvI yhi])],H⟩) (fun a=>a0k.length - a.1)
    (fun a=>a.1<=a0k.length/\(a.2.2=true->1<=a.2.1/\a.2.1<=left/\R=match a1m ob (a0k.drop a.1) 1 (left - a.2.1) with
    | some l=>a3q srcs defs ahead kids (depth+1) l
    | none=>none)/\(a.2.2=false->R=none)) (0,1,b) ⟨⟨by simp,fun q=>⟨by simp,by simpa using g2,by simpa using hsp (hb ▸ q)⟩,fun q=>hno fun q2=>by rw [<- hb] at q2;simp only at q;rw [q] at q2;exact absurd q2.2.2.2 (by simp)⟩,by simp [a0c]⟩ ?_
   rintro ⟨i,cnt,is⟩ ⟨hi,hI1,hI2⟩
   simp only at hi hI1 hI2
   cases is with
   | false =>
    simp
    exact JN.go (cnt,false) ⟨by simp,hI2⟩ (by simp [a0c])
   | true =>
    obtain ⟨c1,c2,hI⟩:=hI1 rfl
    clear hI1 hI2
    simp [a0c]
    refine ⟨fun q=>?_,fun q=>?_⟩
    ·have h:i < a0k.length:=by omega
     have hd:=List.drop_eq_getElem_cons h
     rw [hd,a1m] at hI
     refine AW.draw cc [(16,.n)] (.q 0<|.q 2<|.q 5<|.q 13<|.q 14<|.q 15<|.q 1<|.q 3<|.q 4<|.q 6<|.q 7<|.q 8<|.q 9<|.q 10<|.q 11<|.q 12<|.q 16<|.q 17<|.done) (by kernel_rfl) ?_
     have w2:IntKind.wrap .i64 (left - cnt)=left - cnt:=by rw [wrap64] <;> omega
     simp [h,List.getElem?_eq_getElem h,a0o,w2,ho]
     refine FC.afun (by simpa [a0o] using c1y ob a0k[i] 1 (left - cnt) (by omega) (by omega)) ?_
     cases hl:a2y ob a0k[i] 1 (left - cnt) with
     | none =>
      rw [hl] at hI
      simp [cntV,wrap_succ h hf.2.1.1]
      exact NX.go (i+1,IntKind.wrap .i64 (cnt + -1),false) (by simp;omega) ⟨h,by simp,fun _=>hI⟩ (by simp [a0c])
     | some l =>
      rw [hl] at hI
      have hle:=a8i _ _ _ _ hl
      have w3:IntKind.wrap .i64 (cnt+(left - cnt - l))=left - l:=by rw [wrap64] <;> omega
      simp [cntV,wrap_succ h hf.2.1.1,w3]
      exact NX.go (i+1,left - l,true) (by simp;omega) ⟨h,fun _=>⟨by simp only;omega,by simp only;omega,by simp only [show left - (left - l)=l by omega];exact hI⟩,by simp⟩ (by simp [a0c];omega)
    ·have:a0k.drop i=[]:=List.drop_eq_nil_of_le (by omega)
     rw [this,a1m] at hI
     exact JN.go (cnt,true) ⟨fun _=>⟨c1,c2,hI⟩,by simp⟩ (by simp [a0c])
  ·obtain ⟨cnt0,is0⟩:=a
   obtain ⟨hJ1,hJ2⟩:=hI
   simp only at hJ1 hJ2
   refine AW.seq cc ?_
   simp [a0c]
   refine AW.a0w cc (fun a:Nat × Int × Bool=>⟨[(2,lvI depth),(3,lvI left),(4,.ip [.d (.sl (srcs.map rS)),.d (.sl (defs.map rS)),lvI ahead] 0),(5,.ip ((rExp (.mk op name en fold a0k kids)).map .d) 0),(9,.lp 9 0),(10,.d (.k (.bool a.2.2))),(11,lvI a.2.1),(14,lvI a.1)],[(9,[lvI yc,lvI yk,.d (.k (.bool yn)),.d (.k (.bool yf)),lvI ylo,lvI yhi])],H⟩) (fun a=>kids.length - a.1)
    (fun a=>a.1<=kids.length/\(a.2.2=true->1<=a.2.1/\a.2.1<=left/\R=a3q srcs defs ahead (kids.drop a.1) (depth+1) (left - a.2.1))/\(a.2.2=false->R=none)) (0,cnt0,is0) ⟨⟨by simp,by simpa using hJ1,hJ2⟩,by simp [a0c]⟩ ?_
   rintro ⟨i,cnt,is⟩ ⟨hi,hI1,hI2⟩
   simp only at hi hI1 hI2
   cases is with
   | false =>
    simp
    rw [hI2 rfl]
    refine AW.ev cc ?_
    simp [cntV]
   | true =>
    obtain ⟨c1,c2,hI⟩:=hI1 rfl
    clear hI1 hI2
    simp [a0c]
    refine ⟨fun q=>?_,fun q=>?_⟩
    ·have h:i < kids.length:=by omega
     have hd:=List.drop_eq_getElem_cons h
     rw [hd,a3q] at hI
     refine AW.draw cc [(11,.n)] (.q 1<|.q 3<|.q 6<|.q 7<|.q 8<|.q 9<|.q 10<|.q 0<|.q 2<|.q 4<|.q 5<|.q 11<|.q 12<|.done) (by kernel_rfl) ?_
     have w2:IntKind.wrap .i64 (left - cnt)=left - cnt:=by rw [wrap64] <;> omega
     simp [h,List.getElem?_eq_getElem h,a0c,w1,w2]
     refine FC.afun (by simpa [a0c,b4s] using ih kids[i] (List.getElem_mem h) (depth+1) (left - cnt) (by omega) (by omega)) ?_
     cases hl:lExp srcs defs ahead kids[i] (depth+1) (left - cnt) with
     | none =>
      rw [hl] at hI
      simp [cntV,wrap_succ h hf.2.2.1]
      exact NX.go (i+1,IntKind.wrap .i64 (cnt + -1),false) (by simp;omega) ⟨h,by simp,fun _=>hI⟩ (by simp [a0c])
     | some l =>
      rw [hl] at hI
      have hle:=a8h _ _ _ _ hl
      have w3:IntKind.wrap .i64 (cnt+(left - cnt - l))=left - l:=by rw [wrap64] <;> omega
      simp [cntV,wrap_succ h hf.2.2.1,w3]
      exact NX.go (i+1,left - l,true) (by simp;omega) ⟨h,fun _=>⟨by simp only;omega,by simp only;omega,by simp only [show left - (left - l)=l by omega];exact hI⟩,by simp⟩ (by simp [a0c];omega)
    ·have:kids.drop i=[]:=List.drop_eq_nil_of_le (by omega)
     rw [this,a3q] at hI
     rw [hI]
     refine AW.ev cc ?_
     simp [cntV]
     try omega
theorem c7l (srcs defs:List Str) (ahead:Nat) (ha:ahead<=defs.length):∀ (e:Exp) (depth left:Int),0<=depth->left<=1000->AFun prog 179 [b4s srcs defs ahead,lv (rExp e),lvI depth,lvI left] (lvI (cntV (lExp srcs defs ahead e depth left) left))
 | .mk op name en fold a0k kids,depth,left,hd,hl=>d9g op en fold name a0k kids srcs defs ahead ha (fun k hk depth left hd hl=>c7l srcs defs ahead ha k depth left hd hl) depth left hd hl
end Go.Aft
end
section
set_option maxRecDepth 20000
namespace Go.Aft
open Go.Proofs.Tryz
structure AppX (e:TypeId) (sz:Nat) (H0:GH) (x:LV) (rows:List (List DV)) (H:GH):Prop where
 is:rows=[]/\x=.d (.k (.slice none 0 0)) \/ ∃ n,H0.next<=n/\n < H.next/\x=.osl n rows/\H.obj n=some (.arr e sz rows.length)
 nx:H0.next<=H.next
 ob:∀ m,m < H0.next->H.obj m=H0.obj m
theorem AppX.nil {e:TypeId} {sz:Nat} {H:GH}:AppX e sz H (.d (.k (.slice none 0 0))) [] H:=⟨.inl ⟨rfl,rfl⟩,Nat.le_refl _,fun _ _=>rfl⟩
theorem AppX.plain {e:TypeId} {sz:Nat} {H0 H:GH} {x:LV} {rows:List (List DV)} (h:AppX e sz H0 x rows H):Plain x:=by
 rcases h.is with ⟨_,rfl⟩ | ⟨n,_,_,rfl,_⟩ <;> exact ⟨rfl,trivial,rfl,rfl⟩
theorem AppX.only {e:TypeId} {sz:Nat} {H0 H:GH} {x:LV} {rows:List (List DV)} (h:AppX e sz H0 x rows H) {k:List Nat}:x.only k:=by
 rcases h.is with ⟨_,rfl⟩ | ⟨n,_,_,rfl,_⟩ <;> simp [LV.only]
theorem AppX.fz {e:TypeId} {sz:Nat} {H0 H:GH} {x:LV} {rows:List (List DV)} (h:AppX e sz H0 x rows H):Go.Aft.fz x=.d (.sl rows):=by
 rcases h.is with ⟨rfl,rfl⟩ | ⟨n,_,_,rfl,_⟩ <;> simp [Go.Aft.fz]
theorem AppX.rows {e:TypeId} {sz:Nat} {H0 H:GH} {x:LV} {rows:List (List DV)} (h:AppX e sz H0 x rows H):rowsOf x=some rows:=by
 rcases h.is with ⟨rfl,rfl⟩ | ⟨n,_,_,rfl,_⟩ <;> simp [rowsOf]
theorem AppX.cells {e:TypeId} {sz:Nat} {H0 H:GH} {x:LV} {rows:List (List DV)} (h:AppX e sz H0 x rows H):toDs x.cells=some [.sl rows] \/ toDs x.cells=some [.k (.slice none 0 0)]/\rows=[]:=by
 rcases h.is with ⟨rfl,rfl⟩ | ⟨n,_,_,rfl,_⟩ <;> simp [LV.cells,toDs]
def S.fzT (s:S) (t:Nat):S:={ s with env:=upd s.env t (Go.Aft.fz (s.env t)) }
theorem AW.fzT {P:Program} {rd:RD} {x:Code} {s:S} {Q:QT} (t:Nat) (h:@AW P rd ⟨x⟩ (s.fzT t) Q):@AW P rd ⟨x⟩ s Q:=by
 refine fun E a w hs=>h E a w ?_
 obtain ⟨h2,G,lm,h1,hM,hx,henv,hn⟩:=hs
 refine ⟨h2,G,lm,h1,hM,hx,fun u=>?_,hn⟩
 simp only [S.fzT]
 by_cases e:u=t
 ·subst e;rw [upd_same];exact f4g _ _ (henv u)
 ·rw [upd_ne _ _ e];exact henv u
attribute [simp] S.fzT
theorem AppX.mono {e:TypeId} {sz:Nat} {H0 H1 H2:GH} {x:LV} {rows:List (List DV)} (h:AppX e sz H0 x rows H1) (hn:H1.next<=H2.next) (ho:∀ m,m < H1.next->H2.obj m=H1.obj m):AppX e sz H0 x rows H2:=by
 refine ⟨?_,Nat.le_trans h.nx hn,fun m hm=>by have:=h.nx;rw [ho m (by omega)];exact h.ob m hm⟩
 rcases h.is with q | ⟨n,q1,q2,q3,q4⟩
 ·exact .inl q
 ·exact .inr ⟨n,q1,by omega,q3,by rw [ho n q2];exact q4⟩
theorem APK.appX {c:Cx} {s:S} {K:KT} {dst:Option Nat} {T e:TypeId} {d ed:TyD} {a b:Operand} {H0:GH} {rows ys:List (List DV)} (hT:c.ty T=some d) (hd:d.k=.sl e) (he:c.ty e=some ed) (hsz:ed.sz ≠ 0)
  {x:LV} (ha:s.get a=x) (happ:AppX e ed.sz H0 x rows s.H) (hb:rowsOf (s.arg b)=some ys) (hbp:s.argP b) (hr:∀ r ∈ rows,r.length=ed.sz) (hy:∀ r ∈ ys,r.length=ed.sz)
  (hl:(rows.length+ys.length) * ed.bt<=140737488355328/\rows.length+ys.length<=140737488355328) (hv:∀ t,dst=some t->c.pub t ≠ .vec)
  (hk:∀ x' H',AppX e ed.sz H0 x' (rows ++ ys) H'->s.H.next<=H'.next->(∀ m,m < s.H.next->(∀ r,x ≠ .osl m r)->H'.obj m=s.H.obj m)->@AP K (({ s with H:=H' }:S).put dst x')):@APK c #[a,b] #[T,T] s dst K:=by
 obtain ⟨k,sz,z,bt⟩:=d
 simp only at hd;subst hd
 have hap:s.argP a:=by
  unfold S.argP;rw [ha]
  rcases happ.is with ⟨_,rfl⟩ | ⟨n,_,_,rfl,_⟩ <;> trivial
 have harg:s.arg a=x:=by
  unfold S.arg;rw [ha];exact happ.plain.un
 rcases id happ.is with ⟨rfl,e1⟩ | ⟨n,q1,q2,e1,e2⟩
 ·rw [e1] at harg
  have hvec:a3z c.ty c.pub s dst .append [T,T] [a,b]=none:=by
   simp only [a3z,hT,he,harg,if_true,Option.bind_some,if_neg hsz]
   cases dst with
   | none=>rfl
   | some t=>simp [hv t rfl]
  refine APK.ev ?_
  simp only [opX,hvec,Option.none_or,c0e,hT,he,harg,hb,if_true,Option.bind_some,if_neg hsz,RK_some]
  simp only [List.length_nil,Nat.zero_add] at hl
  refine ⟨⟨hap,hbp,hy,hl⟩,?_⟩
  refine hk (.osl s.H.next ([] ++ ys)) (s.H.add (.arr e ed.sz ys.length)) ⟨.inr ⟨s.H.next,happ.nx,by rw [GH.a0a];omega,rfl,by rw [GH.a0b,if_pos rfl];simp⟩,by rw [GH.a0a];have:=happ.nx;omega,fun m hm=>?_⟩ (by rw [GH.a0a];omega) (fun m hm _=>by rw [GH.a0b,if_neg (by omega)])
  have:=happ.nx
  rw [GH.a0b,if_neg (by omega)];exact happ.ob m hm
 ·rw [e1] at harg
  have hvec:a3z c.ty c.pub s dst .append [T,T] [a,b]=none:=by
   simp only [a3z,hT,he,harg,if_true,Option.bind_some,if_neg hsz]
  refine APK.ev ?_
  simp only [opX,hvec,Option.none_or,c0e,hT,he,harg,e2,hb,if_true,Option.bind_some,if_neg hsz,and_self,RK_some]
  refine ⟨⟨hap,hbp,trivial,hr,hy,hl⟩,?_⟩
  refine hk (.osl n (rows ++ ys)) (s.H.set n (.arr e ed.sz (rows.length+ys.length))) ⟨.inr ⟨n,q1,q2,rfl,by rw [GH.a0f,if_pos rfl];simp⟩,by rw [GH.a0l];exact happ.nx,fun m hm=>by rw [GH.a0f,if_neg (by omega)];exact happ.ob m hm⟩ (by rw [GH.a0l];exact Nat.le_refl _) (fun m hm hne=>?_)
  rw [GH.a0f,if_neg];intro e;subst e;exact hne rows e1
theorem a8q:∀ a b:List Exp,a0y (a ++ b)=a0y a ++ a0y b
 | [],b=>by simp [a0y]
 | x :: a,b=>by simp [a0y,a8q a b]
theorem f0j:∀ (e:Exp) (k:Exp),k ∈ e.kids->(allE k).length<=(allE e).length
 | .mk op name n fold a0k kids,k,hk=>by
  have:∀ l:List Exp,k ∈ l->(allE k).length<=(a0y l).length:=by
   intro l
   induction l with
   | nil=>intro h;cases h
   | cons x l ih =>
    intro h
    rw [a0y,List.length_append]
    rcases List.mem_cons.1 h with rfl | h
    ·omega
    ·have:=ih h;omega
  have:=this kids hk
  simp only [allE,List.length_cons];omega
theorem d9i (op n fold:Int) (name:Str) (a0k:List Calc) (kids:List Exp) (hn:(allE (.mk op name n fold a0k kids)).length<=1000000)
  (ih:∀ k ∈ kids,AFun prog 33 [lv (rExp k)] (sl ((allE k).map rExp))):AFun prog 33 [lv (rExp (.mk op name n fold a0k kids))] (sl ((allE (.mk op name n fold a0k kids)).map rExp)):=by
 have cc:=a0g (p:=kds [1] [] [6])
 refine AFun.body (a0g (p:=kds [1] [] [6])) func33 rfl call33 (by rw [ntmps33];simp) rfl fun hf H=>?_
 have hr1:List.range' 0 1=[0]:=rfl
 simp [ntmps33,results33,a0c,hr1] at hf |-
 refine AW.a0w cc (fun a:Nat × LV × GH=>⟨[(1,.ip ((rExp (.mk op name n fold a0k kids)).map .d) 0),(3,a.2.1),(4,lvI a.1)],[],a.2.2⟩) (fun a=>kids.length - a.1) (fun a=>a.1<=kids.length/\App 68 6 H a.2.1 ((.mk op name n fold a0k kids :: a0y (kids.take a.1)).map rExp) a.2.2)
  (0,.osl H.next [rExp (.mk op name n fold a0k kids)],H.add (.arr 68 6 1)) ⟨⟨by simp,by simpa [a0y] using App.first (by simp)⟩,by simp [a0c,LV.only]⟩ ?_
 rintro ⟨i,x,H'⟩ ⟨hi,happ⟩
 simp only at hi happ
 simp [a0c]
 refine ⟨fun h=>?_,fun h=>?_⟩
 ·have ihk:=ih kids[i] (List.getElem_mem h)
  simp [a0c] at ihk
  simp [h,List.getElem?_eq_getElem h,a0c,happ.plain.all]
  refine EC.afun ihk ?_
  simp [happ.plain.all]
  have hall:a0y (kids.take (i+1))=a0y (kids.take i) ++ allE kids[i]:=by
   rw [<- a0p h,a8q];simp [a0y]
  have hlen:(a0y (kids.take (i+1))).length<=(a0y kids).length:=by
   have:a0y kids=a0y (kids.take (i+1)) ++ a0y (kids.drop (i+1)):=by rw [<- a8q,List.take_append_drop]
   rw [this,List.length_append];omega
  rw [hall,List.length_append] at hlen
  simp only [allE,List.length_cons] at hn
  refine APK.d0d rExp (.mk op name n fold a0k kids :: a0y (kids.take i)) (allE kids[i]) tyE64 rfl tyE68 (by simp) rExp_len (x:=x) (by simp) happ (by simp [rowsOf]) (by simp) (by simp;omega) (by simp) fun x' H2 happ'=>?_
  rw [List.cons_append,<- hall] at happ'
  simp [happ'.plain.all,happ'.only,wrap_succ h hf.2.1]
  exact NX.go (i+1,x',H2) (by simp;omega) ⟨h,happ'⟩ (by simp [happ'.only,happ'.plain.all,a0c])
 ·have e:i=kids.length:=by omega
  subst e
  rw [List.take_length] at happ
  have hz:=happ.fz
  simp [happ.plain.all,hz.1,allE]
  exact hz.2
theorem b8d:∀ (e:Exp),(allE e).length<=1000000->AFun prog 33 [lv (rExp e)] (sl ((allE e).map rExp))
 | .mk op name n fold a0k kids,h=>d9i op n fold name a0k kids h fun k hk=>b8d k (Nat.le_trans (f0j (.mk op name n fold a0k kids) k hk) h)
theorem d1p (e:Exp) (hn:(allE e).length<=1000000):AFun prog 129 [lv (rExp e)] (.d (.k (.bool ((allE e).any a1o)))):=by
 have cc:=a0g (p:=kds [1] [] [])
 refine AFun.body (a0g (p:=kds [1] [] [])) func129 rfl call129 (by rw [ntmps129];simp) rfl fun hf H=>?_
 have ha:=b8d e hn
 simp [a0c] at ha
 simp [ntmps129,results129,a0c]
 refine EC.afun ha ?_
 simp
 generalize hl:allE e=l at hn
 refine AW.a0w cc (fun i:Nat=>⟨[(3,.d (.sl (l.map rExp))),(4,lvI i)],[],H⟩) (fun i=>l.length - i) (fun i=>i<=l.length/\∀ j (h:j < l.length),j < i->a1o l[j]=false) 0 (by simp) fun i hi=>?_
 simp
 refine ⟨fun h=>?_,fun h=>?_⟩
 ·simp [h,List.getElem?_eq_getElem h,a0c]
  refine ⟨fun q=>⟨q,fun q2=>⟨q,q2⟩⟩,fun q=>⟨l[i],List.getElem_mem h,by simpa [a1o] using q⟩,fun q1 q2=>?_⟩
  refine NX.go (i+1) (by omega) ⟨h,fun j hj hji=>?_⟩ (by simp [wrap_succ (n:=1000000) (show i < 1000000 by omega)])
  by_cases z:j=i
  ·subst z;simp [a1o];exact ⟨q1,q2⟩
  ·exact hi.2 j hj (by omega)
 ·intro x hx
  obtain ⟨j,hj,rfl⟩:=List.mem_iff_getElem.1 hx
  exact hi.2 j hj (by omega)
end Go.Aft
end
