import Derived.Test.YtdhphbedajhmnaaGreatA22
set_option linter.all false
section
namespace Go.Aft
def calcOk (other:Bool) (op n:Int) (kids:Nat):Bool :=
 if op=1 then decide (-1000000000<=n/\n<=1000000000/\kids=0)
 else if op=2 \/ op=3 \/ op=4 then decide (n=0/\kids=0)
 else if op=5 then decide (other=true/\n=0/\kids=0)
 else decide (6<=op/\op<=10/\n=0/\kids=2)
mutual
def lCalc (other:Bool):Calc->Int->Int->Option Int
 | .mk op n kids,depth,left=>if depth<=10/\1<=left/\calcOk other op n kids.length=true then lCalcs other kids (depth+1) (left - 1) else none
def lCalcs (other:Bool):List Calc->Int->Int->Option Int
 | [],_,left=>some left
 | k :: ks,depth,left=>match lCalc other k depth left with
  | some l=>lCalcs other ks depth l
  | none=>none
end
mutual
theorem lCalc_le {other:Bool}:∀ (c:Calc) (depth left l:Int),lCalc other c depth left=some l->0<=l/\l < left
 | .mk op n kids,depth,left,l,h=>by
  rw [lCalc] at h
  split at h
  ·rename_i hc
   have:=lCalcs_le kids _ _ _ h (by omega)
   omega
  ·cases h
theorem lCalcs_le {other:Bool}:∀ (cs:List Calc) (depth left l:Int),lCalcs other cs depth left=some l->0<=left->0<=l/\l<=left
 | [],depth,left,l,h,h0=>by rw [lCalcs] at h;cases h;omega
 | k :: ks,depth,left,l,h,h0=>by
  rw [lCalcs] at h
  split at h
  ·rename_i l' hl
   have h1:=lCalc_le k _ _ _ hl
   have h2:=lCalcs_le ks _ _ _ h (by omega)
   omega
  ·cases h
end
structure Shp where
 kids:Int
 calcs:Int
 name:Bool
 fold:Bool
 low:Int
 high:Int
def shpOf (op:Int):Option Shp :=
 if op=1 \/ op=2 then some ⟨0,0,true,false,0,0⟩
 else if op=3 then some ⟨0,0,true,false,1,50⟩
 else if op=4 then some ⟨2,0,false,false,0,0⟩
 else if op=5 then some ⟨1,1,false,false,0,0⟩
 else if op=6 then some ⟨1,2,false,false,0,0⟩
 else if op=7 then some ⟨1,0,false,false,-50,50⟩
 else if op=8 \/ op=11 then some ⟨1,0,false,true,1,50⟩
 else if op=9 then some ⟨1,0,false,true,0,50⟩
 else if op=10 then some ⟨1,0,false,true,0,0⟩
 else if op=12 then some ⟨2,1,false,false,0,50⟩
 else if op=13 then some ⟨2,1,false,false,0,0⟩
 else if op=14 then some ⟨2,0,false,false,0,50⟩
 else if op=15 then some ⟨1,0,false,false,0,0⟩
 else none
def noName:Str:=⟨#[]⟩
def expOk (op:Int) (name:Str) (n fold:Int) (nc nk:Nat):Bool :=
 match shpOf op with
 | none=>false
 | some x=>decide ((nk:Int)=x.kids/\(nc:Int)=x.calcs) && (x.name == decide (name ≠ noName)) && decide (x.low<=n/\n<=x.high) && (if x.fold=true then decide (1<=fold/\fold<=4) else decide (fold=0))
def nameOk (srcs defs:List Str) (ahead op:Int) (name:Str):Bool :=
 if op=1 then decide (0<=idx srcs name) else if op=2 then decide (0<=idx defs name/\idx defs name < ahead) else if op=3 then decide (0<=idx defs name) else true
mutual
def lExp (srcs defs:List Str) (ahead:Int):Exp->Int->Int->Option Int
 | .mk op name n fold calcs kids,depth,left =>
  if depth<=10/\1<=left/\expOk op name n fold calcs.length kids.length=true/\nameOk srcs defs ahead op name=true then
   match lCalcs (decide (op=12 \/ op=13)) calcs 1 (left - 1) with
   | some l=>lExps srcs defs ahead kids (depth+1) l
   | none=>none
  else none
def lExps (srcs defs:List Str) (ahead:Int):List Exp->Int->Int->Option Int
 | [],_,left=>some left
 | k :: ks,depth,left=>match lExp srcs defs ahead k depth left with
  | some l=>lExps srcs defs ahead ks depth l
  | none=>none
end
mutual
theorem lExp_le {srcs defs:List Str} {a:Int}:∀ (c:Exp) (depth left l:Int),lExp srcs defs a c depth left=some l->0<=l/\l < left
 | .mk op name n fold calcs kids,depth,left,l,h=>by
  rw [lExp] at h
  split at h
  ·split at h
   ·rename_i hc _ l1 h1
    have h1:=lCalcs_le _ _ _ _ h1 (by omega)
    have:=lExps_le kids _ _ _ h (by omega)
    omega
   ·cases h
  ·cases h
theorem lExps_le {srcs defs:List Str} {a:Int}:∀ (cs:List Exp) (depth left l:Int),lExps srcs defs a cs depth left=some l->0<=left->0<=l/\l<=left
 | [],depth,left,l,h,h0=>by rw [lExps] at h;cases h;omega
 | k :: ks,depth,left,l,h,h0=>by
  rw [lExps] at h
  split at h
  ·rename_i l' hl
   have h1:=lExp_le k _ _ _ hl
   have h2:=lExps_le ks _ _ _ h (by omega)
   omega
  ·cases h
end
def defNames (p:Prog):List Str:=p.defs.map (·.name)
def lDefs (srcs names:List Str):List Def->Int->Int->Option Int
 | [],_,left=>some left
 | d :: ds,a,left=>match lExp srcs names a d.exp 1 left with
  | some l=>lDefs srcs names ds (a+1) l
  | none=>none
theorem lDefs_le {srcs names:List Str}:∀ (ds:List Def) (a left l:Int),lDefs srcs names ds a left=some l->0<=left->0<=l/\l<=left
 | [],a,left,l,h,h0=>by rw [lDefs] at h;cases h;omega
 | d :: ds,a,left,l,h,h0=>by
  rw [lDefs] at h
  split at h
  ·rename_i l' hl
   have h1:=lExp_le _ _ _ _ hl
   have h2:=lDefs_le ds _ _ _ h (by omega)
   omega
  ·cases h
def kwords:List Str:=[⟨#[97,102,116,101,114]⟩,⟨#[97,110,100]⟩,⟨#[97,115]⟩,⟨#[97,116]⟩,⟨#[98,111,116,104]⟩,⟨#[98,121]⟩,⟨#[99,111,117,110,116]⟩,⟨#[101,97,99,104]⟩,⟨#[101,108,115,101]⟩,⟨#[103,114,101,97,116]⟩,⟨#[103,114,111,117,112]⟩,⟨#[105,110]⟩,⟨#[105,115]⟩,⟨#[107,101,121]⟩,⟨#[108,97,99,107]⟩,⟨#[108,101,97,115,116]⟩,⟨#[108,101,115,115]⟩,⟨#[108,101,116]⟩,⟨#[111,102]⟩,⟨#[111,110,99,101]⟩,⟨#[111,114]⟩,⟨#[111,116,104,101,114]⟩,⟨#[112,97,105,114]⟩,⟨#[112,114,101,118]⟩,⟨#[114,101,115,116]⟩,⟨#[115,97,109,101]⟩,⟨#[115,104,105,102,116]⟩,⟨#[115,108,105,100,101]⟩,⟨#[115,111,117,114,99,101]⟩,⟨#[115,117,109]⟩,⟨#[116,111,116,97,108]⟩,⟨#[118,97,108]⟩,⟨#[119,104,101,114,101]⟩,⟨#[119,105,116,104,105,110]⟩]
def letters (s:Str):Bool:=(List.range s.size).all fun j=>decide (97<=byteAt s (j:Nat)/\byteAt s (j:Nat)<=122)
def nameM (s:Str):Bool:=decide (1<=s.size/\s.size<=8) && letters s && kwords.all (fun k=>decide (s ≠ k))
def strFit (s:Str):Prop:=s.size<=140737488351232
def diffM (l:List Str):Prop:=∀ i (h:i < l.length),nameM l[i]=true/\l[i] ∉ l.take i
mutual
def allE:Exp->List Exp
 | .mk op name n fold calcs kids=>.mk op name n fold calcs kids :: allEs kids
def allEs:List Exp->List Exp
 | []=>[]
 | e :: es=>allE e ++ allEs es
end
def stepsTo (p:Prog) (i:Nat) (k:Nat):Prop:=∃ h:i < p.defs.length,∃ e ∈ allE p.defs[i].exp,(e.op=2 \/ e.op=3)/\idx (defNames p) e.name=(k:Int)
inductive Path (S:Nat->Nat->Prop):Nat->Nat->Prop
 | one {i k:Nat} (h:S i k):Path S i k
 | cons {i j k:Nat} (h:S i j) (t:Path S j k):Path S i k
theorem Path.trans {S:Nat->Nat->Prop} {i j k:Nat} (h:Path S i j) (t:Path S j k):Path S i k:=by
 induction h with
 | one h=>exact .cons h t
 | cons h _ ih=>exact .cons h (ih t)
def looksAhead (e:Exp):Bool:=decide (e.op=14 \/ e.op=7/\e.n < 0)
noncomputable def countM (p:Prog):Option Int :=
 open Classical in if 1<=p.srcs.length/\p.srcs.length<=4/\p.defs.length<=6/\diffM (p.srcs ++ defNames p) then lDefs p.srcs (defNames p) p.defs 0 60 else none
def ringsOk (p:Prog):Prop:=∀ (i:Nat) (h:i < p.defs.length),Path (stepsTo p) i i->∀ e ∈ allE p.defs[i].exp,looksAhead e=false
def formed (p:Prog):Prop:=(∃ l,countM p=some l)/\ringsOk p
end Go.Aft
end
section
namespace Go.Aft
def ringAt (n:Nat) (R:Nat->Nat->Bool) (i:Nat):List Nat:=(List.range n).filter fun k=>k == i || R i k && R k i
def ringsM (n:Nat) (R:Nat->Nat->Bool):List (List Nat):=((List.range n).filter fun i=>R i i && (ringAt n R i).head? == some i).map (ringAt n R)
theorem mem_ringAt {n:Nat} {R:Nat->Nat->Bool} {i k:Nat}:k ∈ ringAt n R i ↔ k < n/\(k=i \/ R i k=true/\R k i=true):=by
 simp [ringAt]
theorem rings_law {n:Nat} {R:Nat->Nat->Bool} (ht:∀ i j k,R i j=true->R j k=true->R i k=true) {k:Nat} (hk:k < n):(∃ ring ∈ ringsM n R,k ∈ ring) ↔ R k k=true:=by
 constructor
 ·rintro ⟨ring,h,hkr⟩
  simp only [ringsM,List.mem_map,List.mem_filter,Bool.and_eq_true] at h
  obtain ⟨i,⟨_,hi,_⟩,rfl⟩:=h
  rcases (mem_ringAt.1 hkr).2 with rfl | ⟨h1,h2⟩
  ·exact hi
  ·exact ht _ _ _ h2 h1
 ·intro hkk
  have hmem:k ∈ ringAt n R k:=mem_ringAt.2 ⟨hk,.inl rfl⟩
  obtain ⟨i,hi⟩:∃ i,(ringAt n R k).head?=some i:=by
   cases h:ringAt n R k with
   | nil=>rw [h] at hmem;cases hmem
   | cons a l=>exact ⟨a,rfl⟩
  have him:i ∈ ringAt n R k:=List.mem_of_mem_head? (by rw [hi];exact rfl)
  obtain ⟨hin,hik⟩:=mem_ringAt.1 him
  have h12:R k i=true/\R i k=true:=by
   rcases hik with rfl | h
   ·exact ⟨hkk,hkk⟩
   ·exact h
  have hii:R i i=true:=ht _ _ _ h12.2 h12.1
  have hsame:ringAt n R i=ringAt n R k:=by
   unfold ringAt
   refine List.filter_congr fun j _=>?_
   rw [Bool.eq_iff_iff]
   simp only [Bool.or_eq_true,beq_iff_eq,Bool.and_eq_true]
   constructor
   ·rintro (rfl | ⟨h1,h2⟩)
    ·exact .inr h12
    ·exact .inr ⟨ht _ _ _ h12.1 h1,ht _ _ _ h2 h12.2⟩
   ·rintro (rfl | ⟨h1,h2⟩)
    ·exact .inr ⟨h12.2,h12.1⟩
    ·exact .inr ⟨ht _ _ _ h12.2 h1,ht _ _ _ h2 h12.1⟩
  refine ⟨ringAt n R i,?_,by rw [hsame];exact hmem⟩
  simp only [ringsM,List.mem_map,List.mem_filter,Bool.and_eq_true]
  exact ⟨i,⟨List.mem_range.2 hin,hii,by rw [hsame,hi];simp⟩,rfl⟩
end Go.Aft
end
section
namespace Go.Aft
def sumU:List (List Nat)->List Bool->Nat
 | t :: ts,b :: bs=>(if b=true then 0 else t.length)+sumU ts bs
 | _,_=>0
theorem sumU_set:∀ (to:List (List Nat)) (row:List Bool) (d:Nat) (hd:d < to.length) (hr:d < row.length),row[d]=false->sumU to (row.set d true)+to[d].length=sumU to row
 | t :: ts,b :: bs,0,hd,hr,h=>by
  simp only [List.getElem_cons_zero] at h;subst h;simp [sumU];omega
 | t :: ts,b :: bs,d+1,hd,hr,h=>by
  simp only [List.length_cons,Nat.add_lt_add_iff_right] at hd hr
  have:=sumU_set ts bs d hd hr (by simpa using h)
  simp [sumU];omega
theorem sumU_le:∀ (to:List (List Nat)) (row:List Bool),sumU to row<=(to.map List.length).sum
 | t :: ts,b :: bs=>by have:=sumU_le ts bs;simp [sumU];split <;> omega
 | [],_=>by simp [sumU]
 | t :: ts,[]=>by simp [sumU]
structure Bfs (to:List (List Nat)) (i k:Nat) (row:List Bool) (todo:List Nat):Prop where
 hk:k<=todo.length
 len:row.length=to.length
 bnd:∀ x ∈ todo,x < to.length
 sound:∀ x ∈ todo,Path (fun a b=>b ∈ to.getD a []) i x
 mark:∀ x,row.getD x false=true->x ∈ todo.take k
 done:∀ x ∈ todo.take k,row.getD x false=true/\∀ y ∈ to.getD x [],y ∈ todo
 init:∀ y ∈ to.getD i [],y ∈ todo
theorem Bfs.start {to:List (List Nat)} (hb:∀ l ∈ to,∀ x ∈ l,x < to.length) {i:Nat} (hi:i < to.length):Bfs to i 0 (List.replicate to.length false) (to.getD i []):=by
 have hm:to.getD i [] ∈ to:=by simp [List.getD,List.getElem?_eq_getElem hi]
 refine ⟨Nat.zero_le _,by simp,fun x hx=>hb _ hm x hx,fun x hx=>.one hx,fun x hx=>?_,fun x hx=>by simp at hx,fun y hy=>hy⟩
 exfalso
 simp only [List.getD] at hx
 rcases Nat.lt_or_ge x to.length with q | q
 ·rw [List.getElem?_replicate,if_pos q] at hx;cases hx
 ·rw [List.getElem?_eq_none (by simpa using q)] at hx;cases hx
theorem Bfs.skip {to:List (List Nat)} {i k:Nat} {row:List Bool} {todo:List Nat} (h:Bfs to i k row todo) (hk:k < todo.length) (hr:row.getD todo[k] false=true):Bfs to i (k+1) row todo:=by
 have ht:todo.take (k+1)=todo.take k ++ [todo[k]]:=by rw [List.take_add_one,List.getElem?_eq_getElem hk];rfl
 refine ⟨hk,h.len,h.bnd,h.sound,fun x hx=>?_,fun x hx=>?_,h.init⟩
 ·rw [ht];exact List.mem_append_left _ (h.mark x hx)
 ·rw [ht,List.mem_append] at hx
  rcases hx with hx | hx
  ·exact h.done x hx
  ·have:=h.mark _ hr
   simp only [List.mem_singleton] at hx;subst hx
   exact h.done _ this
theorem Bfs.turn {to:List (List Nat)} (hb:∀ l ∈ to,∀ x ∈ l,x < to.length) {i k:Nat} {row:List Bool} {todo:List Nat} (h:Bfs to i k row todo) (hk:k < todo.length) (hr:row.getD todo[k] false=false) :
  Bfs to i (k+1) (row.set todo[k] true) (todo ++ to.getD todo[k] []):=by
 have hlt:=h.bnd _ (List.getElem_mem hk)
 have hm:to.getD todo[k] [] ∈ to:=by simp [List.getD,List.getElem?_eq_getElem hlt]
 have ht:(todo ++ to.getD todo[k] []).take (k+1)=todo.take k ++ [todo[k]]:=by
  rw [List.take_append_of_le_length hk,List.take_add_one,List.getElem?_eq_getElem hk];rfl
 have hset:∀ x,(row.set todo[k] true).getD x false=if x=todo[k] then true else row.getD x false:=fun x=>by
  simp only [List.getD,List.getElem?_set]
  by_cases e:x=todo[k]
  ·subst e;simp [h.len,hlt]
  ·rw [if_neg (Ne.symm e),if_neg e]
 refine ⟨by simp;omega,by simp [h.len],fun x hx=>?_,fun x hx=>?_,fun x hx=>?_,fun x hx=>?_,fun y hy=>List.mem_append_left _ (h.init y hy)⟩
 ·rcases List.mem_append.1 hx with hx | hx
  ·exact h.bnd x hx
  ·exact hb _ hm x hx
 ·rcases List.mem_append.1 hx with hx | hx
  ·exact h.sound x hx
  ·exact (h.sound _ (List.getElem_mem hk)).trans (.one hx)
 ·rw [hset] at hx
  rw [ht,List.mem_append]
  by_cases e:x=todo[k]
  ·exact .inr (by simp [e])
  ·rw [if_neg e] at hx;exact .inl (h.mark x hx)
 ·rw [ht,List.mem_append] at hx
  rw [hset]
  by_cases e:x=todo[k]
  ·rw [if_pos e];exact ⟨rfl,fun y hy=>List.mem_append_right _ (e ▸ hy)⟩
  ·rw [if_neg e]
   rcases hx with hx | hx
   ·exact ⟨(h.done x hx).1,fun y hy=>List.mem_append_left _ ((h.done x hx).2 y hy)⟩
   ·exact absurd (by simpa using hx) e
theorem Bfs.end {to:List (List Nat)} {i:Nat} {row:List Bool} {todo:List Nat} (h:Bfs to i todo.length row todo) (x:Nat):row.getD x false=true ↔ Path (fun a b=>b ∈ to.getD a []) i x:=by
 have ht:todo.take todo.length=todo:=List.take_length
 constructor
 ·intro hx;have:=h.mark x hx;rw [ht] at this;exact h.sound x this
 ·intro hp
  have key:∀ a b,Path (fun a b=>b ∈ to.getD a []) a b->(a=i \/ a ∈ todo)->b ∈ todo:=by
   intro a b hab
   have hs:∀ a b,b ∈ to.getD a []->(a=i \/ a ∈ todo)->b ∈ todo:=fun a b hb ha=>by
    rcases ha with rfl | ha
    ·exact h.init b hb
    ·exact (h.done a (by rw [ht];exact ha)).2 b hb
   induction hab with
   | one hb=>exact hs _ _ hb
   | cons hb _ ih=>exact fun ha=>ih (.inr (hs _ _ hb ha))
  have:=key i x hp (.inl rfl)
  exact (h.done x (by rw [ht];exact this)).1
theorem Path.congr {S T:Nat->Nat->Prop} (h:∀ i k,S i k->T i k) {i k:Nat} (p:Path S i k):Path T i k:=by
 induction p with
 | one q=>exact .one (h _ _ q)
 | cons q _ ih=>exact .cons (h _ _ q) ih
end Go.Aft
end
section
namespace Go.Aft
theorem clampM_id {n:Int} (h:-1000000000<=n/\n<=1000000000):clampM n=n:=by
 unfold clampM minI maxI;split <;> split <;> omega
mutual
theorem lCalc_shift {o:Bool} {d:Int} (hd:0<=d):∀ (c:Calc) (depth left l:Int),lCalc o c depth left=some l->lCalc o c depth (left+d)=some (l+d)
 | .mk op n kids,depth,left,l,h=>by
  rw [lCalc] at h |-
  split at h
  ·rename_i hc
   rw [if_pos ⟨hc.1,by omega,hc.2.2⟩]
   have:=lCalcs_shift hd kids _ _ _ h
   rw [show left+d - 1=left - 1+d by omega];exact this
  ·cases h
theorem lCalcs_shift {o:Bool} {d:Int} (hd:0<=d):∀ (cs:List Calc) (depth left l:Int),lCalcs o cs depth left=some l->lCalcs o cs depth (left+d)=some (l+d)
 | [],depth,left,l,h=>by rw [lCalcs] at h |-;cases h;rfl
 | k :: ks,depth,left,l,h=>by
  rw [lCalcs] at h |-
  split at h
  ·rename_i l' hl
   rw [lCalc_shift hd k _ _ _ hl]
   exact lCalcs_shift hd ks _ _ _ h
  ·cases h
end
mutual
theorem lCalc_mean {o:Bool}:∀ (c:Calc) (depth left l:Int),lCalc o c depth left=some l->mFormed c depth left=l
 | .mk op n kids,depth,left,l,h=>by
  have hle:=lCalc_le _ _ _ _ h
  rw [lCalc] at h
  split at h
  ·rename_i hc
   obtain ⟨h1,h2,h3⟩:=hc
   have ih:=lCalcs_mean kids _ _ _ h hle.1
   unfold calcOk at h3
   have key:(1<=op/\op<=10)/\((kids.length:Int)=(if 6<=op then 2 else 0))/\(op=1 \/ n=0)/\n=clampM n:=by
    have h0:clampM 0=0:=clampM_id (by omega)
    split at h3
    ·have:=of_decide_eq_true h3
     exact ⟨by omega,by rw [if_neg (by omega)];omega,by omega,(clampM_id (by omega)).symm⟩
    ·split at h3
     ·have:=of_decide_eq_true h3
      obtain ⟨rfl,q⟩:=this
      exact ⟨by omega,by rw [if_neg (by omega)];omega,by omega,h0.symm⟩
     ·split at h3
      ·have:=of_decide_eq_true h3
       obtain ⟨_,rfl,q⟩:=this
       exact ⟨by omega,by rw [if_neg (by omega)];omega,by omega,h0.symm⟩
      ·have:=of_decide_eq_true h3
       obtain ⟨_,_,rfl,q⟩:=this
       exact ⟨by omega,by rw [if_pos (by omega)];omega,by omega,h0.symm⟩
   obtain ⟨k1,k2,k3,k4⟩:=key
   rw [mFormed,if_neg (by omega),if_neg (by rintro (q | q | q) <;> first | exact q k2 | omega | exact q k4)]
   exact ih
  ·cases h
theorem lCalcs_mean {o:Bool}:∀ (cs:List Calc) (depth left l:Int),lCalcs o cs (depth+1) left=some l->0<=l->mFormedL cs depth left=l
 | [],depth,left,l,h,h0=>by rw [lCalcs] at h;cases h;rw [mFormedL]
 | k :: ks,depth,left,l,h,h0=>by
  rw [lCalcs] at h
  split at h
  ·rename_i l' hl
   have h1:=lCalc_mean k _ _ _ hl
   have h2:=lCalc_le k _ _ _ hl
   rw [mFormedL,h1,if_neg (by omega)]
   exact lCalcs_mean ks _ _ _ h h0
  ·cases h
end
theorem lCalc_ask {o:Bool} {c:Calc} {left l:Int} (h:lCalc o c 1 left=some l) (h60:left<=60):0<=mFormed c 1 60:=by
 have h1:=lCalc_shift (d:=60 - left) (by omega) c _ _ _ h
 have h2:=lCalc_le _ _ _ _ h
 rw [show left+(60 - left)=60 by omega] at h1
 rw [lCalc_mean c _ _ _ h1];omega
theorem lCalcs_mem {o:Bool}:∀ (cs:List Calc) (left l:Int),lCalcs o cs 1 left=some l->0<=left->left<=60->∀ c ∈ cs,0<=mFormed c 1 60
 | k :: ks,left,l,h,h0,h60,c,hc=>by
  rw [lCalcs] at h
  split at h
  ·rename_i l' hl
   have:=lCalc_le _ _ _ _ hl
   rcases List.mem_cons.1 hc with rfl | hc
   ·exact lCalc_ask hl h60
   ·exact lCalcs_mem ks _ _ h (by omega) (by omega) c hc
  ·cases h
theorem WOk.mono {d d':Nat} {e:Exp} (h:WOk d e) (hd:d<=d'):WOk d' e:=by
 induction h generalizing d' with
 | other d e h=>exact .other _ _ h
 | where_ d name n fold c cs k ks h ih =>
  obtain ⟨m,rfl⟩:∃ m,d'=m+1:=⟨d' - 1,by omega⟩
  exact .where_ m name n fold c cs k ks (ih (by omega))
theorem expOk_len {op n fold:Int} {name:Str} {nc nk:Nat} (h:expOk op name n fold nc nk=true):∃ x,shpOf op=some x/\(nk:Int)=x.kids/\(nc:Int)=x.calcs:=by
 unfold expOk at h
 split at h
 ·cases h
 ·rename_i x hx
  simp only [Bool.and_eq_true,decide_eq_true_eq] at h
  exact ⟨x,hx,h.1.1.1.1,h.1.1.1.2⟩
theorem lExp_where {srcs defs:List Str} {a:Int}:∀ (e:Exp) (depth left l:Int),lExp srcs defs a e depth left=some l->left<=60->WOk (11 - depth).toNat e/\∀ c ∈ (strip e).1,0<=mFormed c 1 60
 | .mk op name n fold calcs kids,depth,left,l,h,h60=>by
  rw [lExp] at h
  split at h
  ·rename_i hc
   obtain ⟨h1,h2,h3,h4⟩:=hc
   by_cases h5:op=5
   ·subst h5
    obtain ⟨x,hx,k1,k2⟩:=expOk_len h3
    simp [shpOf] at hx
    subst hx
    match calcs,kids,k1,k2,h with
    | [c],[k],_,_,h =>
     split at h
     ·rename_i l1 hl1
      have b1:=lCalcs_le _ _ _ _ hl1 (by omega)
      rw [lExps] at h
      split at h
      ·rename_i l2 hl2
       obtain ⟨w1,w2⟩:=lExp_where k _ _ _ hl2 (by omega)
       refine ⟨?_,fun c' hc'=>?_⟩
       ·have:(11 - depth).toNat=(11 - (depth+1)).toNat+1:=by omega
        rw [this];exact .where_ _ _ _ _ _ _ _ _ w1
       ·rw [strip,if_pos rfl] at hc'
        rcases List.mem_cons.1 hc' with rfl | hc'
        ·exact lCalcs_mem _ _ _ hl1 (by omega) (by omega) _ (by simp)
        ·exact w2 c' (by rw [stripL] at hc';exact hc')
      ·cases h
     ·cases h
   ·refine ⟨.other _ _ (by simpa using h5),fun c hc=>?_⟩
    rw [strip,if_neg h5] at hc;cases hc
  ·cases h
theorem lDefs_at {srcs names:List Str}:∀ (ds:List Def) (a left l:Int),lDefs srcs names ds a left=some l->0<=left->∀ (i:Nat) (h:i < ds.length),∃ l1 l2,lExp srcs names (a+i) ds[i].exp 1 l1=some l2/\0<=l1/\l1<=left
 | d :: ds,a,left,l,h,h0,i,hi=>by
  rw [lDefs] at h
  split at h
  ·rename_i l' hl
   have:=lExp_le _ _ _ _ hl
   cases i with
   | zero=>exact ⟨left,l',by simpa using hl,h0,Int.le_refl _⟩
   | succ i =>
    obtain ⟨l1,l2,q1,q2,q3⟩:=lDefs_at ds _ _ _ h (by omega) i (by simpa using hi)
    refine ⟨l1,l2,?_,q2,by omega⟩
    rw [show a+((i+1:Nat):Int)=a+1+(i:Int) by omega];simpa using q1
  ·cases h
end Go.Aft
end
section
namespace Go.Aft
def markK (M:Nat->Bool) (k:Nat):Nat->Bool:=fun x=>if x=k then true else M x
def unm (n:Nat) (M:Nat->Bool):Nat:=(List.range n).countP fun k=>!M k
theorem unm_mono {n:Nat} {M M':Nat->Bool} (h:∀ k,M k=true->M' k=true):unm n M'<=unm n M:=by
 refine List.countP_mono_left fun k _ hk=>?_
 cases hm:M k with
 | false=>rfl
 | true=>rw [h k hm] at hk;cases hk
theorem unm_mark {n:Nat} {M:Nat->Bool} {k:Nat} (hk:k < n) (hm:M k=false):unm n (markK M k) < unm n M:=by
 unfold unm
 induction n with
 | zero=>omega
 | succ n ih =>
  rw [List.range_succ,List.countP_append,List.countP_append]
  by_cases e:k=n
  ·subst e
   have h1:(List.range k).countP (fun x=>!markK M k x)<=(List.range k).countP (fun x=>!M x):=unm_mono (n:=k) fun x hx=>by unfold markK;split <;> simp [hx]
   simp [markK,hm];simp [markK] at h1;omega
  ·have:=ih (by omega)
   have hn:markK M k n=M n:=by unfold markK;rw [if_neg (by omega)]
   simp only [List.countP_cons,List.countP_nil,hn]
   omega
structure LookPost (S:Nat->Nat->Prop) (M M':Nat->Bool) (d:Nat):Prop where
 sub:∀ k,M k=true->M' k=true
 succ:∀ k,S d k->M' k=true
 clos:∀ j,M' j=true->M j=false->∀ k,S j k->M' k=true
 sound:∀ k,M' k=true->M k=true \/ Path S d k
structure LookInv (S:Nat->Nat->Prop) (M M':Nat->Bool) (d:Nat) (done:Nat->Prop):Prop where
 sub:∀ k,M k=true->M' k=true
 succ:∀ k,done k->M' k=true
 clos:∀ j,M' j=true->M j=false->∀ k,S j k->M' k=true
 sound:∀ k,M' k=true->M k=true \/ Path S d k
theorem LookInv.start {S:Nat->Nat->Prop} {M:Nat->Bool} {d:Nat} {done:Nat->Prop} (h:∀ k,¬ done k):LookInv S M M d done :=
 ⟨fun _ h=>h,fun k hk=>absurd hk (h k),fun j h1 h2=>absurd (h1.symm.trans h2) (by simp),fun k h=>.inl h⟩
theorem LookInv.same {S:Nat->Nat->Prop} {M M':Nat->Bool} {d:Nat} {done done':Nat->Prop} (h:LookInv S M M' d done) (hd:∀ k,done' k->done k \/ M' k=true):LookInv S M M' d done' :=
 ⟨h.sub,fun k hk=>(hd k hk).elim (h.succ k) id,h.clos,h.sound⟩
theorem LookInv.step {S:Nat->Nat->Prop} {M M1 M2:Nat->Bool} {d x:Nat} {done done':Nat->Prop} (h:LookInv S M M1 d done) (hs:S d x) (hp:LookPost S (markK M1 x) M2 x) (hd:∀ k,done' k->done k \/ k=x):LookInv S M M2 d done':=by
 have hx:M2 x=true:=hp.sub x (by simp [markK])
 have hsub:∀ k,M1 k=true->M2 k=true:=fun k hk=>hp.sub k (by unfold markK;split <;> simp [hk])
 refine ⟨fun k hk=>hsub k (h.sub k hk),fun k hk=>?_,fun j h1 h2 k hk=>?_,fun k hk=>?_⟩
 ·rcases hd k hk with q | rfl
  ·exact hsub k (h.succ k q)
  ·exact hx
 ·by_cases e:j=x
  ·subst e;exact hp.succ k hk
  ·cases hm:M1 j with
   | true=>exact hsub k (h.clos j hm h2 k hk)
   | false=>exact hp.clos j h1 (by unfold markK;rw [if_neg e];exact hm) k hk
 ·rcases hp.sound k hk with q | q
  ·unfold markK at q
   split at q
   ·rename_i e;subst e;exact .inr (.one hs)
   ·exact h.sound k q
  ·exact .inr (.cons hs q)
theorem LookInv.end {S:Nat->Nat->Prop} {M M':Nat->Bool} {d:Nat} {done:Nat->Prop} (h:LookInv S M M' d done) (hd:∀ k,S d k->done k):LookPost S M M' d:=⟨h.sub,fun k hk=>h.succ k (hd k hk),h.clos,h.sound⟩
theorem LookPost.all {S:Nat->Nat->Prop} {M:Nat->Bool} {d:Nat} (h:LookPost S (fun _=>false) M d) (k:Nat):M k=true ↔ Path S d k:=by
 constructor
 ·intro hk
  rcases h.sound k hk with q | q
  ·cases q
  ·exact q
 ·intro hp
  have key:∀ a b,Path S a b->(a=d \/ M a=true)->M b=true:=by
   intro a b hab
   have hs:∀ a b,S a b->(a=d \/ M a=true)->M b=true:=fun a b hb ha=>by
    rcases ha with rfl | ha
    ·exact h.succ b hb
    ·exact h.clos a ha rfl b hb
   induction hab with
   | one hb=>exact hs _ _ hb
   | cons hb _ ih=>exact fun ha=>ih (.inr (hs _ _ hb ha))
  exact key d k hp (.inl rfl)
end Go.Aft
end
section
namespace Go.Aft
def zeroRec:Rec:=⟨0,0,0⟩
def recOk (r:Rec):Prop:=0<=r.at_/\r.at_<=200/\inMost r.key/\inMost r.val
def saidM (n:News):Prop:=0<=n.id/\n.id<=999/\1<=n.ver/\n.ver<=99/\recOk n.rec_
def markedM (n:News):Prop:=n.id=0/\n.ver=0/\n.rec_.key=0/\n.rec_.val=0/\0<=n.rec_.at_/\n.rec_.at_<=201
def goodM (n:News) (srcs:Int):Prop:=0<=n.src/\n.src<=srcs - 1/\(n.do_=1/\saidM n \/ n.do_=2/\saidM n/\n.rec_=zeroRec \/ n.do_=3/\markedM n)
instance (r:Rec):Decidable (recOk r):=by unfold recOk inMost;infer_instance
instance (n:News):Decidable (saidM n):=by unfold saidM;infer_instance
instance (n:News):Decidable (markedM n):=by unfold markedM;infer_instance
instance (n:News) (s:Int):Decidable (goodM n s):=by unfold goodM;infer_instance
def plainM (l:List News) (srcs:Int):Prop:=1<=srcs/\srcs<=4/\l.length<=60/\∀ n ∈ l,goodM n srcs
instance (l:List News) (s:Int):Decidable (plainM l s):=by unfold plainM;infer_instance
def clashB (a b:News):Bool:=decide (a.do_ ≠ 3/\b.do_ ≠ 3/\a.src=b.src/\a.id=b.id/\a.ver=b.ver/\a ≠ b)
def clashAt (l:List News) (k:Nat):Option Nat:=match l[k]? with
 | none=>none
 | some b=>(l.take k).findIdx? fun a=>clashB a b
def clashFrom (l:List News):Nat->Nat->Option (Nat × Nat)
 | 0,_=>none
 | m+1,k=>match clashAt l k with
  | some i=>some (i,k)
  | none=>clashFrom l m (k+1)
def clashM (l:List News):Option (Nat × Nat):=clashFrom l l.length 0
def formedN (l:List News) (srcs:Int):Prop:=plainM l srcs/\clashM l=none
instance (l:List News) (s:Int):Decidable (formedN l s):=by unfold formedN;infer_instance
theorem clashFrom_none {l:List News}:∀ (m k:Nat),(∀ j,k<=j->j < k+m->clashAt l j=none)->clashFrom l m k=none
 | 0,k,_=>rfl
 | m+1,k,h=>by
  rw [clashFrom,h k (by omega) (by omega)]
  exact clashFrom_none m (k+1) fun j h1 h2=>h j (by omega) (by omega)
theorem clashFrom_some {l:List News}:∀ (m k j i:Nat),k<=j->j < k+m->(∀ j',k<=j'->j' < j->clashAt l j'=none)->clashAt l j=some i->clashFrom l m k=some (i,j)
 | 0,k,j,i,h1,h2,_,_=>by omega
 | m+1,k,j,i,h1,h2,h3,h4=>by
  rw [clashFrom]
  by_cases e:j=k
  ·subst e;rw [h4]
  ·rw [h3 k (by omega) (by omega)]
   exact clashFrom_some m (k+1) j i (by omega) (by omega) (fun j' a b=>h3 j' (by omega) b) h4
theorem clashM_none {l:List News} (h:∀ j,j < l.length->clashAt l j=none):clashM l=none:=clashFrom_none _ _ fun j _ hj=>h j (by omega)
theorem clashM_some {l:List News} {i j:Nat} (hj:j < l.length) (h:∀ j',j' < j->clashAt l j'=none) (hi:clashAt l j=some i):clashM l=some (i,j):=clashFrom_some _ _ j i (by omega) (by omega) (fun j' _ h'=>h j' h') hi
def hearL (src id:Int) (acc:Option News) (n:News):Option News :=
 if n.do_ ≠ 3/\n.src=src/\n.id=id/\(∀ w,acc=some w->w.ver < n.ver) then some n else acc
def lastM (l:List News) (src id:Int):Option News:=l.foldl (hearL src id) none
def hearM (src:Int) (acc:Int) (n:News):Int:=if n.do_=3/\n.src=src then maxI acc n.rec_.at_ else acc
def markM (l:List News) (src:Int):Int:=l.foldl (hearM src) 0
def oneM (l:List News) (src id:Int):List Event:=match lastM l src id with
 | some n=>if n.do_=1 then [⟨src,id,n.rec_⟩] else []
 | none=>[]
def stepM (l:List News) (n:News):List Event × List Event :=
 if n.do_=3 then ([],[]) else if oneM l n.src n.id=oneM (l ++ [n]) n.src n.id then ([],[]) else (oneM l n.src n.id,oneM (l ++ [n]) n.src n.id)
def lateAt (l:List News) (n:News):Bool:=((stepM l n).1 ++ (stepM l n).2).any fun e=>decide (e.rec_.at_ < markM l n.src)
def lateFrom (l:List News):List News->Nat->List Nat
 | [],_=>[]
 | n :: ns,i=>(if lateAt l n=true then [i] else []) ++ lateFrom (l ++ [n]) ns (i+1)
def lateM (l:List News):List Nat:=lateFrom [] l 0
theorem lastM_snoc (l:List News) (n:News) (src id:Int):lastM (l ++ [n]) src id=hearL src id (lastM l src id) n:=by simp [lastM]
theorem markM_snoc (l:List News) (n:News) (src:Int):markM (l ++ [n]) src=hearM src (markM l src) n:=by simp [markM]
theorem lateFrom_snoc (l:List News):∀ (done:List News) (n:News) (acc:List News) (i:Nat),lateFrom acc (done ++ [n]) i=lateFrom acc done i ++ (if lateAt (acc ++ done) n=true then [i+done.length] else [])
 | [],n,acc,i=>by simp [lateFrom]
 | m :: ms,n,acc,i=>by
  have:=lateFrom_snoc l ms n (acc ++ [m]) (i+1)
  simp only [List.cons_append,lateFrom,this,List.append_assoc,List.nil_append,List.length_cons]
  rw [show i+(ms.length+1)=i+1+ms.length by omega]
theorem lateM_take {l:List News} {i:Nat} (h:i < l.length):lateM (l.take (i+1))=lateM (l.take i) ++ (if lateAt (l.take i) l[i]=true then [i] else []):=by
 have ht:l.take (i+1)=l.take i ++ [l[i]]:=by rw [List.take_add_one,List.getElem?_eq_getElem h];rfl
 rw [ht,lateM,lateFrom_snoc l]
 simp [lateM,Nat.min_eq_left (Nat.le_of_lt h)]
def evLt (a b:Event):Prop:=a.rec_.at_ < b.rec_.at_ \/ a.rec_.at_=b.rec_.at_/\(a.src < b.src \/ a.src=b.src/\a.id < b.id)
theorem sorted_unique {α:Type} {lt:α->α->Prop} (irr:∀ a,¬ lt a a) (tr:∀ a b c,lt a b->lt b c->lt a c):∀ {l m:List α},l.Pairwise lt->m.Pairwise lt->(∀ x,x ∈ l ↔ x ∈ m)->l=m
 | [],[],_,_,_=>rfl
 | [],b :: m,_,_,h=>absurd ((h b).2 (by simp)) (by simp)
 | a :: l,[],_,_,h=>absurd ((h a).1 (by simp)) (by simp)
 | a :: l,b :: m,hl,hm,h=>by
  rw [List.pairwise_cons] at hl hm
  have e:a=b:=by
   rcases List.mem_cons.1 ((h a).1 (by simp)) with q | q
   ·exact q
   ·rcases List.mem_cons.1 ((h b).2 (by simp)) with r | r
    ·exact r.symm
    ·exact absurd (tr _ _ _ (hm.1 a q) (hl.1 b r)) (irr b)
  subst e
  congr 1
  refine sorted_unique irr tr hl.2 hm.2 fun x=>?_
  have hx:=h x
  simp only [List.mem_cons] at hx
  constructor
  ·intro hxl
   rcases hx.1 (.inr hxl) with rfl | q
   ·exact absurd (hl.1 x hxl) (irr x)
   ·exact q
  ·intro hxm
   rcases hx.2 (.inr hxm) with rfl | q
   ·exact absurd (hm.1 x hxm) (irr x)
   ·exact q
end Go.Aft
end
section
namespace Go.Aft
instance (a b:Event):Decidable (evLt a b):=by unfold evLt;infer_instance
theorem snoc_ind {α:Type} {p:List α->Prop} (h0:p []) (h:∀ l a,p l->p (l ++ [a])):∀ l,p l:=by
 intro l
 rw [<- List.reverse_reverse l]
 induction l.reverse with
 | nil=>exact h0
 | cons a l ih=>rw [List.reverse_cons];exact h _ _ ih
def insE (e:Event):List Event->List Event
 | []=>[e]
 | x :: xs=>if evLt e x then e :: x :: xs else x :: insE e xs
def keyStep (acc:List (Int × Int)) (n:News):List (Int × Int):=if n.do_=3 \/ (n.src,n.id) ∈ acc then acc else acc ++ [(n.src,n.id)]
def evKeys (l:List News):List (Int × Int):=l.foldl keyStep []
def standsM (l:List News):List Event:=((evKeys l).flatMap fun k=>oneM l k.1 k.2).foldr insE []
theorem oneM_mem {l:List News} {s i:Int} {e:Event} (h:e ∈ oneM l s i):e.src=s/\e.id=i:=by
 unfold oneM at h
 split at h
 ·split at h
  ·simp at h;subst h;exact ⟨rfl,rfl⟩
  ·simp at h
 ·simp at h
theorem evKeys_snoc (l:List News) (n:News):evKeys (l ++ [n])=keyStep (evKeys l) n:=by
 simp only [evKeys,List.foldl_append,List.foldl_cons,List.foldl_nil]
theorem evKeys_mem (s i:Int):∀ (l:List News),(∃ n,lastM l s i=some n)->(s,i) ∈ evKeys l:=by
 refine snoc_ind ?_ fun l n ih=>?_
 ·rintro ⟨n,h⟩;simp [lastM] at h
 ·rintro ⟨w,h⟩
  rw [lastM_snoc,hearL] at h
  rw [evKeys_snoc,keyStep]
  split at h
  ·rename_i hc
   obtain ⟨h1,h2,h3,_⟩:=hc
   split
   ·rename_i hq
    rcases hq with hq | hq
    ·exact absurd hq h1
    ·rw [<- h2,<- h3];exact hq
   ·rw [<- h2,<- h3];simp
  ·have:=ih ⟨w,h⟩
   split
   ·exact this
   ·exact List.mem_append_left _ this
theorem evKeys_nodup:∀ (l:List News),(evKeys l).Nodup:=by
 refine snoc_ind ?_ fun l n ih=>?_
 ·simp [evKeys]
 ·rw [evKeys_snoc,keyStep]
  split
  ·exact ih
  ·rename_i hq
   rw [List.nodup_append]
   refine ⟨ih,by simp,fun a ha b hb=>?_⟩
   simp at hb;subst hb
   intro e;subst e;exact hq (.inr ha)
theorem insE_mem {e x:Event}:∀ {l:List Event},x ∈ insE e l ↔ x=e \/ x ∈ l
 | []=>by simp [insE]
 | y :: l=>by
  rw [insE]
  split
  ·simp
  ·simp [insE_mem (l:=l)];constructor <;> (intro h;rcases h with h | h | h <;> simp [h])
theorem foldr_mem {x:Event}:∀ {l:List Event},x ∈ l.foldr insE [] ↔ x ∈ l
 | []=>by simp
 | y :: l=>by simp [insE_mem,foldr_mem (l:=l)]
theorem evLt_tri (a b:Event) (h:¬ evLt a b):evLt b a \/ (a.src=b.src/\a.id=b.id):=by unfold evLt at *;omega
theorem evLt_trans {a b c:Event} (h:evLt a b) (k:evLt b c):evLt a c:=by unfold evLt at *;omega
theorem evLt_irr (a:Event):¬ evLt a a:=by unfold evLt;omega
theorem insE_sorted {e:Event}:∀ {l:List Event},l.Pairwise evLt->(∀ x ∈ l,¬ (x.src=e.src/\x.id=e.id))->(insE e l).Pairwise evLt
 | [],_,_=>by simp [insE]
 | y :: l,h,hk=>by
  rw [List.pairwise_cons] at h
  rw [insE]
  split
  ·rename_i hlt
   rw [List.pairwise_cons]
   refine ⟨fun x hx=>?_,List.pairwise_cons.2 h⟩
   rcases List.mem_cons.1 hx with rfl | hx
   ·exact hlt
   ·exact evLt_trans hlt (h.1 x hx)
  ·rename_i hlt
   rw [List.pairwise_cons]
   refine ⟨fun x hx=>?_,insE_sorted h.2 fun x hx=>hk x (List.mem_cons_of_mem _ hx)⟩
   rcases insE_mem.1 hx with rfl | hx
   ·rcases evLt_tri _ _ hlt with q | q
    ·exact q
    ·exact absurd ⟨q.1.symm,q.2.symm⟩ (hk y (List.mem_cons_self ..))
   ·exact h.1 x hx
theorem foldr_sorted:∀ {l:List Event},l.Pairwise (fun a b=>¬ (a.src=b.src/\a.id=b.id))->(l.foldr insE []).Pairwise evLt
 | [],_=>by simp
 | y :: l,h=>by
  rw [List.pairwise_cons] at h
  refine insE_sorted (foldr_sorted h.2) fun x hx=>?_
  have:=h.1 x (foldr_mem.1 hx)
  exact fun q=>this ⟨q.1.symm,q.2.symm⟩
theorem oneM_len' (l:List News) (s i:Int):(oneM l s i).length<=1:=by
 unfold oneM
 split
 ·split <;> simp
 ·simp
theorem flat_keys (l:List News):∀ (ks:List (Int × Int)),ks.Nodup->(ks.flatMap fun k=>oneM l k.1 k.2).Pairwise (fun a b=>¬ (a.src=b.src/\a.id=b.id))
 | [],_=>by simp
 | k :: ks,h=>by
  rw [List.nodup_cons] at h
  rw [List.flatMap_cons,List.pairwise_append]
  refine ⟨?_,flat_keys l ks h.2,fun a ha b hb=>?_⟩
  ·have:=oneM_len' l k.1 k.2
   match hq:oneM l k.1 k.2,this with
   | [],_=>simp
   | [x],_=>simp
  ·obtain ⟨k',hk',hb⟩:=List.mem_flatMap.1 hb
   have h1:=oneM_mem ha;have h2:=oneM_mem hb
   rintro ⟨q1,q2⟩
   refine h.1 ?_
   have:k=k':=by
    obtain ⟨a1,a2⟩:=k;obtain ⟨b1,b2⟩:=k'
    simp only at h1 h2
    rw [<- h1.1,<- h1.2,<- h2.1,<- h2.2,q1,q2]
   rw [this];exact hk'
theorem standsM_sorted (l:List News):(standsM l).Pairwise evLt:=foldr_sorted (flat_keys l _ (evKeys_nodup l))
theorem standsM_mem (l:List News) (e:Event):e ∈ standsM l ↔ e ∈ oneM l e.src e.id:=by
 unfold standsM
 rw [foldr_mem,List.mem_flatMap]
 constructor
 ·rintro ⟨k,hk,h⟩
  have:=oneM_mem h
  rw [this.1,this.2];exact h
 ·intro h
  refine ⟨(e.src,e.id),evKeys_mem _ _ _ ?_,h⟩
  unfold oneM at h
  split at h
  ·rename_i n hn;exact ⟨n,hn⟩
  ·simp at h
theorem standsM_eq {l:List News} {xs:List Event} (h1:xs.Pairwise evLt) (h2:∀ e,e ∈ xs ↔ e ∈ oneM l e.src e.id):xs=standsM l :=
 sorted_unique evLt_irr (fun _ _ _=>evLt_trans) h1 (standsM_sorted l) fun e=>(h2 e).trans (standsM_mem l e).symm
end Go.Aft
end
