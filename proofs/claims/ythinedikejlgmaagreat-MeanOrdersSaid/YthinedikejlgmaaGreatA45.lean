import Derived.Test.YthinedikejlgmaaGreatA44
import Derived.Test.YthinedikejlgmaaGreatA39
import Derived.Test.YthinedikejlgmaaGreatA34
import Derived.Test.YthinedikejlgmaaGreatA32
set_option linter.all false
section
set_option maxRecDepth 20000
namespace Go.Aft
def a8v (gen:Item->Option Rec) (b:List Item):List Item:=b.foldl (fun out x=>match gen x with
 | none=>out
 | some r=>if (⟨r,1⟩:Item) ∈ out then out else out ++ [⟨r,1⟩]) []
theorem d3j (gen:Item->Option Rec) (b:List Item) (x:Item):a8v gen (b ++ [x])=match gen x with
 | none=>a8v gen b
 | some r=>if (⟨r,1⟩:Item) ∈ a8v gen b then a8v gen b else a8v gen b ++ [⟨r,1⟩]:=by
 rw [a8v,List.foldl_append];rfl
theorem b3k (gen:Item->Option Rec) (r:Rec):∀ b:List Item,Ind (cntM (a8v gen b) r) (∃ x ∈ b,gen x=some r)/\((⟨r,1⟩:Item) ∈ a8v gen b ↔ ∃ x ∈ b,gen x=some r):=by
 refine a8d ⟨⟨fun ⟨x,h,_⟩=>absurd h List.not_mem_nil,fun _=>rfl⟩,⟨fun h=>absurd h List.not_mem_nil,fun ⟨x,h,_⟩=>absurd h List.not_mem_nil⟩⟩ fun b x ih=>?_
 rw [d3j]
 have hiff:(∃ y ∈ b ++ [x],gen y=some r) ↔ (∃ y ∈ b,gen y=some r) \/ gen x=some r:=by
  constructor
  ·rintro ⟨y,hy,q⟩
   rcases List.mem_append.1 hy with h | h
   ·exact .inl ⟨y,h,q⟩
   ·rw [List.mem_singleton.1 h] at q;exact .inr q
  ·rintro (⟨y,hy,q⟩ | q)
   ·exact ⟨y,List.mem_append_left _ hy,q⟩
   ·exact ⟨x,List.mem_append_right _ (List.mem_singleton.2 rfl),q⟩
 cases hg:gen x with
 | none =>
  simp only
  have h2:(∃ y ∈ b,gen y=some r) ↔ (∃ y ∈ b ++ [x],gen y=some r):=by rw [hiff,hg];simp
  exact ⟨ih.1.congr h2,ih.2.trans h2⟩
 | some s =>
  simp only
  by_cases e:s=r
  ·subst e
   have h2:(∃ y ∈ b ++ [x],gen y=some s):=hiff.2 (.inr hg)
   split
   ·rename_i hm
    have h3:=ih.2.1 hm
    exact ⟨ih.1.congr ⟨fun _=>h2,fun _=>h3⟩,⟨fun _=>h2,fun _=>hm⟩⟩
   ·rename_i hm
    have h3:¬ ∃ y ∈ b,gen y=some s:=fun q=>hm (ih.2.2 q)
    refine ⟨⟨fun _=>?_,fun q=>absurd h2 q⟩,⟨fun _=>h2,fun _=>by simp⟩⟩
    rw [a6k,ih.1.2 h3]
    simp [cntM]
  ·have h2:(∃ y ∈ b,gen y=some r) ↔ (∃ y ∈ b ++ [x],gen y=some r):=by rw [hiff,hg];simp [e]
   split
   ·exact ⟨ih.1.congr h2,ih.2.trans h2⟩
   ·refine ⟨?_,?_⟩
    ·rw [a6k]
     have:cntM [(⟨s,1⟩:Item)] r=0:=by simp [cntM,e]
     rw [this,Int.add_zero]
     exact ih.1.congr h2
    ·rw [<- h2,<- ih.2,List.mem_append]
     have:¬ (⟨r,1⟩:Item) ∈ [(⟨s,1⟩:Item)]:=fun q=>e (by have:=List.mem_singleton.1 q;injection this with h1 _;exact h1.symm)
     exact ⟨fun q=>q.resolve_right this,.inl⟩
def f5f (o:Option Item) (y:Item):Bool:=match o with
 | none=>true
 | some z=>decide (z.rec_.at_ < y.rec_.at_ \/ y.rec_.at_=z.rec_.at_/\z.rec_.val < y.rec_.val)
def e0m (b:List Item) (r:Rec):Option Item:=b.foldl (fun o y=>if y.rec_.key=r.key/\y.rec_.at_<=r.at_/\f5f o y=true then some y else o) none
theorem e0l (b:List Item) (r:Rec) (y:Item):e0m (b ++ [y]) r=if y.rec_.key=r.key/\y.rec_.at_<=r.at_/\f5f (e0m b r) y=true then some y else e0m b r:=by
 unfold e0m;rw [List.foldl_append];rfl
theorem e8r (r:Rec):∀ b:List Item,IncB b->(∀ x ∈ b,0<=x.rec_.at_)->e0m b r=(winB b r.key 0 r.at_).getLast?:=by
 refine a8d (fun _ _=>rfl) fun b y ih hb h0=>?_
 have hb':=List.pairwise_append.1 hb
 have ih:=ih hb'.1 fun x hx=>h0 x (List.mem_append_left _ hx)
 have hy0:=h0 y (by simp)
 have hw:winB (b ++ [y]) r.key 0 r.at_=winB b r.key 0 r.at_ ++ (if y.rec_.key=r.key/\y.rec_.at_<=r.at_ then [y] else []):=by
  rw [winB,List.filter_append,winB]
  congr 1
  by_cases q:y.rec_.key=r.key/\y.rec_.at_<=r.at_
  ·rw [if_pos q,List.filter_cons_of_pos (by simp [q.1,q.2,hy0]),List.filter_nil]
  ·rw [if_neg q,List.filter_cons_of_neg (by simp;intro h1 h2;exact Int.not_le.1 fun h3=>q ⟨h1,h3⟩),List.filter_nil]
 rw [e0l,hw,ih]
 by_cases q:y.rec_.key=r.key/\y.rec_.at_<=r.at_
 ·rw [if_pos q,List.getLast?_concat]
  rw [if_pos]
  refine ⟨q.1,q.2,?_⟩
  cases hl:(winB b r.key 0 r.at_).getLast? with
  | none=>rfl
  | some z =>
   have hz:=d4r.1 (List.mem_of_getLast? hl)
   have:=hb'.2.2 z hz.1 y (by simp)
   simp only [a2e,decide_eq_true_eq] at this
   have hk:z.rec_.key=y.rec_.key:=by rw [hz.2.1,q.1]
   exact decide_eq_true (by omega)
 ·rw [if_neg q,List.append_nil,if_neg fun w=>q ⟨w.1,w.2.1⟩]
def f4b (c:Calc) (b:List Item) (x:Item):List Item:=match e0m b x.rec_ with
 | none=>[]
 | some y=>[⟨⟨x.rec_.at_,x.rec_.key,cVal x.rec_ y.rec_.val c⟩,x.n⟩]
def e8l (p:Prog) (W:World') (op:Int) (name:Str) (n f:Int) (cs:List Calc) (ks:List Bag):List Item :=
 let a:=ks.getD 0 []
 let b:=ks.getD 1 []
 let c:=cs.getD 0 default
 if op=1 then W.srcs.getD (idx p.srcs name).toNat []
 else if op=2 then W.defs.getD (idx (a0d p) name).toNat []
 else if op=3 then a4r n (W.defs.getD (idx (a0d p) name).toNat [])
 else if op=4 then a ++ b
 else if op=5 then a7c c a
 else if op=6 then d3n c (cs.getD 1 default) a
 else if op=7 then a4r n a
 else if op=8 then a8v (genB f 0 (d6u n) a) a
 else if op=9 then a8v (genB f 0 (d5f n) a) a
 else if op=10 then a8v (genB f 0 d4v a) a
 else if op=11 then a8v (genB f n (c4m n) a) a
 else if op=12 then a.flatMap (d1t n c b)
 else if op=13 then a.flatMap (f4b c b)
 else if op=14 then a.filter fun x=>(winB b x.rec_.key (x.rec_.at_ - n) (x.rec_.at_+n)).isEmpty
 else c7r a
theorem f3h {b:List Item} (hb:IncT b) (n:Int) (a:List Item):c1l n a b=a.filter fun x=>(winB b x.rec_.key (x.rec_.at_ - n) (x.rec_.at_+n)).isEmpty:=by
 unfold c1l
 refine List.filter_congr fun x _=>?_
 rw [a4j hb]
theorem e3h (p:Prog) (W:World') {op:Int} {name:Str} {n f:Int} {cs:List Calc} {ks:List Bag} (hk:∀ b ∈ ks,a7x b) (h8:op=8->1<=n) (h11:op=11->0<=n) (r:Rec):cntM (e8l p W op name n f cs ks) r=cntM (actM p W op name n f cs ks) r:=by
 have k0:=d3i hk 0
 have k1:=d3i hk 1
 have t0:=b9k k0.1
 have t1:=b9k k1.1
 unfold e8l actM
 simp only
 by_cases q1:op=1
 ·rw [if_pos q1,if_pos q1]
 rw [if_neg q1,if_neg q1]
 by_cases q2:op=2
 ·rw [if_pos q2,if_pos q2]
 rw [if_neg q2,if_neg q2]
 by_cases q3:op=3
 ·rw [if_pos q3,if_pos q3]
 rw [if_neg q3,if_neg q3]
 by_cases q4:op=4
 ·rw [if_pos q4,if_pos q4]
 rw [if_neg q4,if_neg q4]
 by_cases q5:op=5
 ·rw [if_pos q5,if_pos q5]
 rw [if_neg q5,if_neg q5]
 by_cases q6:op=6
 ·rw [if_pos q6,if_pos q6]
 rw [if_neg q6,if_neg q6]
 by_cases q7:op=7
 ·rw [if_pos q7,if_pos q7]
 rw [if_neg q7,if_neg q7]
 by_cases q8:op=8
 ·rw [if_pos q8,if_pos q8];exact (b3k _ r _).1.eq (a7h (d6t (h8 q8)) t0 k0.2 r) Iff.rfl
 rw [if_neg q8,if_neg q8]
 by_cases q9:op=9
 ·rw [if_pos q9,if_pos q9];exact (b3k _ r _).1.eq (a7h d5e t0 k0.2 r) Iff.rfl
 rw [if_neg q9,if_neg q9]
 by_cases q10:op=10
 ·rw [if_pos q10,if_pos q10];exact (b3k _ r _).1.eq (a7h d4u t0 k0.2 r) Iff.rfl
 rw [if_neg q10,if_neg q10]
 by_cases q11:op=11
 ·rw [if_pos q11,if_pos q11];exact (b3k _ r _).1.eq (a7h (e2l (h11 q11)) t0 k0.2 r) Iff.rfl
 rw [if_neg q11,if_neg q11]
 by_cases q12:op=12
 ·rw [if_pos q12,if_pos q12,d1s t1]
 rw [if_neg q12,if_neg q12]
 by_cases q13:op=13
 ·rw [if_pos q13,if_pos q13,d4a t1]
  have e:f4b (cs.getD 0 default) (ks.getD 1 [])=d4b (cs.getD 0 default) (ks.getD 1 []):=by
   funext x
   rw [f4b,d4b,e8r x.rec_ _ k1.1 k1.2]
   cases (winB (ks.getD 1 []) x.rec_.key 0 x.rec_.at_).getLast? <;> rfl
  rw [e]
 rw [if_neg q13,if_neg q13]
 by_cases q14:op=14
 ·rw [if_pos q14,if_pos q14,f3h t1]
 rw [if_neg q14,if_neg q14]
mutual
def f3t (p:Prog) (W:World') (top:Int):Exp->Option Bag
 | .mk op name n f cs kids=>match c9o p W top kids with
  | none=>none
  | some ks=>if b0f (a1i (e8l p W op name n f cs ks) top) then some (a1i (e8l p W op name n f cs ks) top) else none
def c9o (p:Prog) (W:World') (top:Int):List Exp->Option (List Bag)
 | []=>some []
 | e :: es=>match f3t p W top e with
  | none=>none
  | some b=>match c9o p W top es with
   | none=>none
   | some bs=>some (b :: bs)
end
theorem c4f {a b:List Item} (h:∀ r,cntM a r=cntM b r) (t:Int):a1i a t=a1i b t:=EqTo.summed fun r _=>h r
mutual
theorem e5d {p:Prog} {W:World'} {top:Int}:∀ e:Exp,(∀ x ∈ allE e,(x.op=8->1<=x.n)/\(x.op=11->0<=x.n))->f3t p W top e=expM p W top e/\∀ b,expM p W top e=some b->a7x b
 | .mk op name n f cs kids,hx=>by
  obtain ⟨q1,q2⟩:=c3f kids fun x hx'=>hx x (by rw [allE];exact List.mem_cons_of_mem _ hx')
  have hx0:=hx (.mk op name n f cs kids) (by rw [allE];exact List.mem_cons_self ..)
  rw [f3t,expM,q1]
  cases hk:a6e p W top kids with
  | none=>exact ⟨rfl,fun b h=>by cases h⟩
  | some ks =>
   simp only
   rw [c4f (e3h p W (op:=op) (name:=name) (n:=n) (f:=f) (cs:=cs) (q2 ks hk) hx0.1 hx0.2) top]
   refine ⟨rfl,fun b h=>?_⟩
   split at h
   ·cases h;exact a7x.summed _ _
   ·cases h
theorem c3f {p:Prog} {W:World'} {top:Int}:∀ es:List Exp,(∀ x ∈ a0y es,(x.op=8->1<=x.n)/\(x.op=11->0<=x.n))->c9o p W top es=a6e p W top es/\∀ ks,a6e p W top es=some ks->∀ b ∈ ks,a7x b
 | [],_=>⟨by rw [c9o,a6e],fun ks h b hb=>by rw [a6e] at h;cases h;exact absurd hb List.not_mem_nil⟩
 | e :: es,hx=>by
  obtain ⟨q1,q2⟩:=e5d (p:=p) (W:=W) (top:=top) e fun x hx'=>hx x (by rw [a0y];exact List.mem_append_left _ hx')
  obtain ⟨q3,q4⟩:=c3f (p:=p) (W:=W) (top:=top) es fun x hx'=>hx x (by rw [a0y];exact List.mem_append_right _ hx')
  rw [c9o,a6e,q1,q3]
  refine ⟨rfl,fun ks h b hb=>?_⟩
  cases h1:expM p W top e with
  | none=>rw [h1] at h;cases h
  | some b1 =>
   rw [h1] at h
   cases h2:a6e p W top es with
   | none=>rw [h2] at h;cases h
   | some bs =>
    rw [h2] at h
    cases h
    rcases List.mem_cons.1 hb with q | q
    ·rw [q];exact q2 _ h1
    ·exact q4 _ h2 b q
end
end Go.Aft
end
section
set_option maxRecDepth 20000
namespace Go.Aft
open Go.Proofs.Tryz
def NdB (l:List Item):Prop:=l.Pairwise fun a b=>a2e b.rec_ a.rec_=false
theorem c2a {a b:Rec} (h:a2e a b=true):a2e b a=false:=by
 cases q:a2e b a with
 | false=>rfl
 | true=>have:=a5s h q;rw [a9o] at this;cases this
theorem d5t {a b c:Rec} (h:a2e b a=false) (k:a2e c b=false):a2e c a=false:=by
 simp only [a2e,decide_eq_false_iff_not] at *;omega
def d5x:Nat->List Item->List Item->List Item
 | 0,a,b=>a ++ b
 | _+1,[],b=>b
 | _+1,x :: a,[]=>x :: a
 | f+1,x :: a,y :: b=>if a2e y.rec_ x.rec_=true then y :: d5x f (x :: a) b else x :: d5x f a (y :: b)
def mgL (a b:List Item):List Item:=d5x (a.length+b.length) a b
theorem d2g (b:List Item):mgL [] b=b:=by
 unfold mgL
 cases b with
 | nil=>rfl
 | cons y b=>simp only [List.length_nil,List.length_cons,Nat.zero_add];rfl
theorem c5a (a:List Item):mgL a []=a:=by
 unfold mgL
 cases a with
 | nil=>rfl
 | cons x a=>simp only [List.length_nil,List.length_cons,Nat.add_zero];rfl
theorem c5b (x y:Item) (a b:List Item):mgL (x :: a) (y :: b)=if a2e y.rec_ x.rec_=true then y :: mgL (x :: a) b else x :: mgL a (y :: b):=by
 have e:(x :: a).length+(y :: b).length=(a.length+1+b.length)+1:=by simp only [List.length_cons];omega
 have e2:a.length+(y :: b).length=a.length+1+b.length:=by simp only [List.length_cons];omega
 unfold mgL
 rw [e,e2,d5x];rfl
theorem b3d:∀ (N:Nat) (a b:List Item),a.length+b.length<=N->(mgL a b).Perm (a ++ b)
 | _,[],b,_=>by rw [d2g];exact .refl _
 | _,x :: a,[],_=>by rw [c5a];simp
 | 0,x :: a,y :: b,h=>by simp at h
 | N+1,x :: a,y :: b,h=>by
  rw [c5b]
  simp only [List.length_cons] at h
  split
  ·exact ((b3d N (x :: a) b (by simp only [List.length_cons];omega)).cons y).trans List.perm_middle.symm
  ·exact (b3d N a (y :: b) (by simp only [List.length_cons];omega)).cons x
theorem e3o:∀ (N:Nat) (a b:List Item),a.length+b.length<=N->NdB a->NdB b->NdB (mgL a b)
 | _,[],b,_,_,hb=>by rw [d2g];exact hb
 | _,x :: a,[],_,ha,_=>by rw [c5a];exact ha
 | 0,x :: a,y :: b,h,_,_=>by simp at h
 | N+1,x :: a,y :: b,h,ha,hb=>by
  rw [c5b]
  simp only [List.length_cons] at h
  have ha':=List.pairwise_cons.1 ha
  have hb':=List.pairwise_cons.1 hb
  split
  ·rename_i q
   refine List.pairwise_cons.2 ⟨fun z hz=>?_,e3o N (x :: a) b (by simp only [List.length_cons];omega) ha hb'.2⟩
   have hz2:=(b3d _ (x :: a) b (Nat.le_refl _)).mem_iff.1 hz
   rcases List.mem_append.1 hz2 with w | w
   ·rcases List.mem_cons.1 w with w | w
    ·rw [w];exact c2a q
    ·exact d5t (c2a q) (ha'.1 z w)
   ·exact hb'.1 z w
  ·rename_i q
   have q:a2e y.rec_ x.rec_=false:=by simpa using q
   refine List.pairwise_cons.2 ⟨fun z hz=>?_,e3o N a (y :: b) (by simp only [List.length_cons];omega) ha'.2 hb⟩
   have hz2:=(b3d _ a (y :: b) (Nat.le_refl _)).mem_iff.1 hz
   rcases List.mem_append.1 hz2 with w | w
   ·exact ha'.1 z w
   ·rcases List.mem_cons.1 w with w | w
    ·rw [w];exact q
    ·exact d5t q (hb'.1 z w)
theorem a9m:∀ (N:Nat) (l:List Item),l.length < N->l.length<=1000000->∃ l':List Item,l'.Perm l/\NdB l'/\AFun prog 84 [sl (l.map a0i)] (sl (l'.map a0i))
 | 0,l,h,_=>absurd h (by omega)
 | N+1,l,hN,hM=>by
  by_cases h2:l.length < 2
  ·refine ⟨l,.refl _,?_,?_⟩
   ·match l,h2 with
    | [],_=>exact .nil
    | [x],_=>exact List.pairwise_singleton _ _
    | x :: y :: t,h=>exact absurd h (by simp)
   ·intro H
    have cc:=a0g (p:=kds [] [] [])
    refine a0j.a1j (a0g (p:=kds [] [] [])) func84 rfl call84 (by rw [ntmps84];simp) rfl fun hf hw=>?_
    have h2':(l.length:Int) < 2:=by omega
    simp [ntmps84,results84,h2']
    refine APK.appX (ys:=l.map a0i) (H0:=H) (rows:=[]) (x:=.d (.k (.slice none 0 0))) tyE29 rfl tyE86 (by simp) (by simp) AppX.nil (by simp [rowsOf]) (by simp) (by simp) (a1b _) (by simp;omega) (by simp) fun x' H3 happ' _ _=>?_
    simp [happ'.plain.all]
    exact fun hz=>⟨H,a0m happ'.nx happ'.ob hw.none,by rw [happ'.fz];simp [LV.nb],by rw [happ'.fz];rfl,rfl⟩
  ·obtain ⟨n,hn⟩:∃ n,l.length / 2=n:=⟨_,rfl⟩
   obtain ⟨a,pa,na,fa⟩:=a9m N (l.take n) (by simp;omega) (by simp;omega)
   obtain ⟨b,pb,nb,fb⟩:=a9m N (l.drop n) (by simp;omega) (by simp;omega)
   have hpl:(a ++ b).Perm l:=(pa.append pb).trans (by rw [List.take_append_drop])
   have hal:a.length=n:=by rw [pa.length_eq];simp;omega
   have hbl:b.length=l.length - n:=by rw [pb.length_eq];simp
   refine ⟨mgL a b,(b3d _ a b (Nat.le_refl _)).trans hpl,e3o _ a b (Nat.le_refl _) na nb,?_⟩
   intro H
   have cc:=a0g (p:=kds [] [] [])
   refine a0j.a1j (a0g (p:=kds [] [] [])) func84 rfl call84 (by rw [ntmps84];simp) rfl fun hf hw=>?_
   have h2':¬ (l.length:Int) < 2:=by omega
   have hdiv:(l.length:Int) / 2=n:=by omega
   have hnl:n<=l.length:=by omega
   simp at fa fb
   simp [ntmps84,results84,h2']
   refine AW.draw cc [(5,.n),(11,.n)] (.q 0<|.q 1<|.q 6<|.q 7<|.q 2<|.q 3<|.q 4<|.q 5<|.q 8<|.q 9<|.q 10<|.q 11<|.q 12<|.q 13<|.done) (by kernel_rfl) ?_
   have hwd:IntKind.i64.wrap ((l.length:Int) / 2)=n:=by rw [wrap64] <;> omega
   simp [hwd,hnl]
   refine FC.afun fa ?_
   simp [hwd,hnl]
   refine FC.afun fb ?_
   simp [hwd,hnl]
   refine AW.a0w cc (fun st:List Item × List Item × List Item × LV × GH=>⟨[(3,sl (st.1.map a0i)),(4,sl (st.2.1.map a0i)),(5,st.2.2.2.1)],[],st.2.2.2.2⟩) (fun st=>st.1.length+st.2.1.length)
    (fun st=>st.2.2.1.length+st.1.length+st.2.1.length=l.length/\AppX 86 4 H st.2.2.2.1 (st.2.2.1.map a0i) st.2.2.2.2/\st.2.2.1 ++ mgL st.1 st.2.1=mgL a b) (a,b,[],.d (.k (.slice none 0 0)),H) ⟨⟨by simp only [List.length_nil];omega,AppX.nil,rfl⟩,by simp⟩ ?_
   rintro ⟨a1,b1,out,x,H2⟩ ⟨hlen,happ,hM⟩
   simp only at hlen happ hM
   simp
   match a1,b1,hlen,hM with
   | [],b1,hlen,hM =>
    simp [happ.plain.all]
    refine APK.appX (ys:=([]:List Item).map a0i) tyE29 rfl tyE86 (by simp) (x:=x) (by simp) happ (by simp [rowsOf]) (by simp) (a1b _) (a1b _) (by simp at hlen |-;omega) (by simp) fun x2 H3 happ2 _ _=>?_
    simp [happ2.plain.all]
    refine APK.appX (ys:=b1.map a0i) tyE29 rfl tyE86 (by simp) (x:=x2) (by simp) happ2 (by simp [rowsOf]) (by simp) (by rw [<- List.map_append];exact a1b _) (a1b _) (by simp at hlen |-;omega) (by simp) fun x3 H4 happ3 _ _=>?_
    simp [happ3.plain.all]
    have hout:out ++ b1=mgL a b:=by rw [<- hM,d2g]
    have hfz:fz x3=.d (.sl ((mgL a b).map a0i)):=by rw [happ3.fz,<- hout];simp
    exact fun hz=>⟨H,a0m happ3.nx happ3.ob hw.none,by rw [hfz];trivial,hfz,rfl⟩
   | x1 :: a1,[],hlen,hM =>
    simp [happ.plain.all]
    refine APK.appX (ys:=(x1 :: a1).map a0i) tyE29 rfl tyE86 (by simp) (x:=x) (by simp) happ (by simp [rowsOf]) (by simp) (a1b _) (a1b _) (by simp at hlen |-;omega) (by simp) fun x2 H3 happ2 _ _=>?_
    simp [happ2.plain.all]
    refine APK.appX (ys:=([]:List Item).map a0i) tyE29 rfl tyE86 (by simp) (x:=x2) (by simp) happ2 (by simp [rowsOf]) (by simp) (by rw [<- List.map_append];exact a1b _) (a1b _) (by simp at hlen |-;omega) (by simp) fun x3 H4 happ3 _ _=>?_
    simp [happ3.plain.all]
    have hout:out ++ (x1 :: a1)=mgL a b:=by rw [<- hM,c5a]
    have hfz:fz x3=.d (.sl ((mgL a b).map a0i)):=by rw [happ3.fz,<- hout];simp
    exact fun hz=>⟨H,a0m happ3.nx happ3.ob hw.none,by rw [hfz];trivial,hfz,rfl⟩
   | x1 :: a1,y1 :: b1,hlen,hM =>
    have hls:=d9f y1.rec_ x1.rec_
    simp [rRec] at hls
    rw [c5b] at hM
    simp
    refine AW.draw cc [(8,.n)] (.q 0<|.q 1<|.q 2<|.q 4<|.q 5<|.q 6<|.q 3<|.q 7<|.q 8<|.done) (by kernel_rfl) ?_
    simp [a0i]
    refine FC.afun hls ?_
    cases hq:a2e y1.rec_ x1.rec_ with
    | true =>
     rw [if_pos hq] at hM
     simp [happ.plain.all,a0i]
     refine APK.appX (ys:=[a0i y1]) tyE29 rfl tyE86 (by simp) (x:=x) (by simp) happ (by simp [rowsOf,a0i]) (by simp) (a1b _) (by simp) (by simp at hlen |-;omega) (by simp) fun x2 H3 happ2 _ _=>?_
     simp [happ2.plain.all]
     refine ⟨by omega,?_⟩
     rw [show out.map a0i ++ [a0i y1]=(out ++ [y1]).map a0i by simp] at happ2
     exact NX.go (x1 :: a1,b1,out ++ [y1],x2,H3) (by simp only [List.length_cons];omega) ⟨by simp only [List.length_cons,List.length_append,List.length_nil] at hlen |-;omega,happ2,by rw [List.append_assoc];exact hM⟩ (by simp [happ2.only,a0i])
    | false =>
     rw [if_neg (by rw [hq];simp)] at hM
     simp [happ.plain.all,a0i]
     refine APK.appX (ys:=[a0i x1]) tyE29 rfl tyE86 (by simp) (x:=x) (by simp) happ (by simp [rowsOf,a0i]) (by simp) (a1b _) (by simp) (by simp at hlen |-;omega) (by simp) fun x2 H3 happ2 _ _=>?_
     simp [happ2.plain.all]
     refine ⟨by omega,?_⟩
     rw [show out.map a0i ++ [a0i x1]=(out ++ [x1]).map a0i by simp] at happ2
     exact NX.go (a1,y1 :: b1,out ++ [x1],x2,H3) (by simp only [List.length_cons];omega) ⟨by simp only [List.length_cons,List.length_append,List.length_nil] at hlen |-;omega,happ2,by rw [List.append_assoc];exact hM⟩ (by simp [happ2.only,a0i])
end Go.Aft
end
section
set_option maxRecDepth 20000
namespace Go.Aft
open Go.Proofs.Tryz
def d9a (out:List Item) (x:Item):List Item:=match out.getLast? with
 | none=>out ++ [x]
 | some y=>if y.rec_=x.rec_ then out.dropLast ++ [⟨y.rec_,y.n+x.n⟩] else out ++ [x]
def adjL (l:List Item):List Item:=l.foldl d9a []
theorem b0l (l:List Item) (x:Item):adjL (l ++ [x])=d9a (adjL l) x:=by unfold adjL;rw [List.foldl_append];rfl
theorem a7g (out:List Item) (y x:Item):d9a (out ++ [y]) x=if y.rec_=x.rec_ then out ++ [⟨y.rec_,y.n+x.n⟩] else out ++ [y] ++ [x]:=by
 unfold d9a
 rw [List.getLast?_concat,List.dropLast_concat]
theorem a9f (x:Item):d9a [] x=[x]:=rfl
theorem e2d (out:List Item) (x:Item) (r:Rec):cntM (d9a out x) r=cntM out r+(if x.rec_=r then x.n else 0):=by
 rcases List.eq_nil_or_concat out with rfl | ⟨l,y,rfl⟩
 ·rw [a9f];simp [cntM]
 ·rw [List.concat_eq_append,a7g]
  split
  ·rename_i e
   rw [a6k,a6k]
   simp only [cntM,e]
   split <;> omega
  ·rw [a6k]
   simp only [cntM]
   omega
theorem f0l (r:Rec):∀ l:List Item,cntM (adjL l) r=cntM l r:=by
 refine a8d rfl fun l x ih=>?_
 rw [b0l,e2d,ih,a6k]
 simp [cntM]
theorem d7t:∀ l:List Item,NdB l->IncB (adjL l)/\(adjL l).map (·.rec_) ⊆ l.map (·.rec_)/\(adjL l).getLast?.map (·.rec_)=l.getLast?.map (·.rec_):=by
 refine a8d (fun _=>⟨.nil,by simp [adjL],rfl⟩) fun l x ih h=>?_
 have h':=List.pairwise_append.1 h
 obtain ⟨i1,i2,i3⟩:=ih h'.1
 rw [b0l]
 rcases List.eq_nil_or_concat (adjL l) with e | ⟨o,y,e⟩
 ·rw [e,a9f]
  refine ⟨List.pairwise_singleton _ _,by simp,by simp⟩
 ·rw [List.concat_eq_append] at e
  rw [e] at i1 i2 i3 |-
  have hym:y.rec_ ∈ l.map (·.rec_):=i2 (by simp)
  have hle:∀ z ∈ l,a2e x.rec_ z.rec_=false:=fun z hz=>h'.2.2 z hz x (by simp)
  have hyx:a2e x.rec_ y.rec_=false:=by
   obtain ⟨z,hz,e⟩:=List.mem_map.1 hym
   rw [<- e];exact hle z hz
  have hi:=List.pairwise_append.1 i1
  rw [a7g]
  split
  ·rename_i q
   refine ⟨List.pairwise_append.2 ⟨hi.1,List.pairwise_singleton _ _,fun z hz w hw=>?_⟩,?_,?_⟩
   ·rw [List.mem_singleton.1 hw]
    exact hi.2.2 z hz y (by simp)
   ·intro r hr
    rw [List.map_append] at hr |-
    refine List.mem_append_left _ ?_
    rcases List.mem_append.1 hr with w | w
    ·exact i2 (by rw [List.map_append];exact List.mem_append_left _ w)
    ·simp at w;rw [w];exact hym
   ·rw [List.getLast?_concat,List.getLast?_concat];simp [q]
  ·rename_i q
   have hlt:a2e y.rec_ x.rec_=true:=by
    cases w:a2e y.rec_ x.rec_ with
    | true=>rfl
    | false=>exact absurd (b8e w hyx) q
   refine ⟨List.pairwise_append.2 ⟨i1,List.pairwise_singleton _ _,fun z hz w hw=>?_⟩,?_,by rw [List.getLast?_concat,List.getLast?_concat]⟩
   ·rw [List.mem_singleton.1 hw]
    rcases List.mem_append.1 hz with v | v
    ·exact a5s (hi.2.2 z v y (by simp)) hlt
    ·rw [List.mem_singleton.1 v];exact hlt
   ·intro r hr
    rw [List.map_append] at hr |-
    rcases List.mem_append.1 hr with w | w
    ·exact List.mem_append_left _ (i2 w)
    ·exact List.mem_append_right _ w
theorem f4d {l l':List Item} (hp:l'.Perm l) (hn:NdB l'):(adjL l').filter (fun x=>decide (x.n ≠ 0))=bagM l:=by
 refine c6b ((d7t l' hn).1.filter _) (fun x hx=>by simpa using (List.mem_filter.1 hx).2) fun r=>?_
 have h1:=(d7t l' hn).1
 have h2:cntM ((adjL l').filter fun x=>decide (x.n ≠ 0)) r=cntM (adjL l') r:=by
  have:∀ L:List Item,cntM (L.filter fun x=>decide (x.n ≠ 0)) r=cntM L r:=fun L=>by
   induction L with
   | nil=>rfl
   | cons x L ih =>
    by_cases e:x.n=0
    ·rw [List.filter_cons_of_neg (by simp [e]),ih,cntM]
     split <;> omega
    ·rw [List.filter_cons_of_pos (by simp [e]),cntM,cntM,ih]
  exact this _
 rw [h2,f0l]
 exact b9w hp r
theorem f0k (l:List Item):(adjL l).length<=l.length:=by
 revert l
 refine a8d (by simp [adjL]) fun l x ih=>?_
 rw [b0l]
 rcases List.eq_nil_or_concat (adjL l) with e | ⟨o,y,e⟩
 ·rw [e,a9f];simp
 ·rw [List.concat_eq_append] at e
  rw [e] at ih |-
  rw [a7g]
  simp at ih
  split <;> simp <;> omega
theorem f4e {M:Int} (hM:0<=M):∀ l:List Item,(∀ x ∈ l,1<=x.n/\x.n<=M)->∀ x ∈ adjL l,1<=x.n/\x.n<=M * l.length:=by
 refine a8d (fun _ x hx=>absurd hx (by simp [adjL])) fun l x ih h=>?_
 have ih:=ih fun y hy=>h y (List.mem_append_left _ hy)
 have hx:=h x (by simp)
 have hml:M * ((l.length:Int)+1)=M * l.length+M:=by rw [Int.mul_add,Int.mul_one]
 have h0:0<=M * (l.length:Int):=Int.mul_nonneg hM (by omega)
 rw [b0l]
 intro z hz
 rw [List.length_append,List.length_singleton]
 push_cast
 rw [hml]
 rcases List.eq_nil_or_concat (adjL l) with e | ⟨o,y,e⟩
 ·rw [e,a9f,List.mem_singleton] at hz
  rw [hz];omega
 ·rw [List.concat_eq_append] at e
  rw [e] at ih hz
  rw [a7g] at hz
  have hy:=ih y (by simp)
  split at hz
  ·rcases List.mem_append.1 hz with q | q
   ·have:=ih z (List.mem_append_left _ q);omega
   ·rw [List.mem_singleton.1 q];simp only;omega
  ·rcases List.mem_append.1 hz with q | q
   ·have:=ih z q;omega
   ·rw [List.mem_singleton.1 q];omega
theorem e7v (l:List Item) (hl:l.length<=1000000) (hn:∀ x ∈ l,1<=x.n/\x.n<=1000000000000):AFun prog 37 [sl (l.map a0i)] (bagL (bagM l)):=by
 intro H
 obtain ⟨l',hp,hnd,hsrt⟩:=a9m (l.length+1) l (Nat.lt_succ_self _) hl
 have hll:l'.length=l.length:=hp.length_eq
 have hn':∀ x ∈ l',1<=x.n/\x.n<=1000000000000:=fun x hx=>hn x (hp.mem_iff.1 hx)
 have cc:=a6j (p:=kds [] [] [46])
 refine a0j.a3a (a6j (p:=kds [] [] [46])) func37 rfl call37 (by rw [ntmps37];simp) rfl fun hf hw=>?_
 simp at hsrt
 simp [ntmps37,results37]
 refine AW.seq cc ?_
 simp
 refine AW.seq cc ?_
 simp
 refine AW.seq cc ?_
 simp
 refine EC.afun hsrt ?_
 simp
 refine AW.a0w cc (fun st:Nat × LV × GH=>⟨[(3,st.2.1),(11,sl (l'.map a0i)),(12,lvI l'.length),(13,lvI st.1)],[],st.2.2⟩) (fun st=>l'.length - st.1)
  (fun st=>st.1<=l'.length/\VApp 86 4 H st.2.1 ((adjL (l'.take st.1)).map a0i) st.2.2) (0,.d (.k (.slice none 0 0)),H) ⟨⟨Nat.zero_le _,VApp.nil⟩,by simp⟩ ?_
 rintro ⟨i,y,H2⟩ ⟨hi,happ⟩
 simp only at hi happ
 have hal:=f0k (l'.take i)
 have htl:(l'.take i).length<=i:=by simp;omega
 simp
 refine ⟨fun h=>?_,fun h=>?_⟩
 ·obtain ⟨x,hx⟩:∃ x,l'[i]=x:=⟨_,rfl⟩
  have hxm:x ∈ l':=hx ▸ List.getElem_mem h
  have hta:l'.take (i+1)=l'.take i ++ [x]:=by rw [<- a0p h,hx]
  have hsn:=b0l (l'.take i) x
  rw [<- hta] at hsn
  have hbd:=f4e (M:=1000000000000) (by omega) (l'.take i) fun z hz=>hn' z (List.mem_of_mem_take hz)
  have hw':=wrap_succ (n:=9223372036854775807) (show i < 9223372036854775807 by omega)
  obtain ⟨O,hO⟩:∃ O,adjL (l'.take i)=O:=⟨_,rfl⟩
  rw [hO] at hsn happ hal hbd
  have hr4:∀ r ∈ O.map a0i,r.length=4:=a1b _
  rcases id happ.is with ⟨k1,k2⟩ | ⟨nv,gv,k1,k2,k3,k4,k5⟩
  ·have hO0:O=[]:=by simpa using k1
   subst hO0
   subst k2
   rw [a9f] at hsn
   simp [h,List.getElem?_eq_getElem h,hx,a0i]
   refine AW.draw cc [] (.q 0<|.q 1<|.q 2<|.q 3<|.q 4<|.q 5<|.q 6<|.q 7<|.q 9<|.q 8<|.q 10<|.q 11<|.q 12<|.done) (by kernel_rfl) ?_
   simp [a0i]
   refine APK.appV (ys:=[a0i x]) tyE30 rfl tyE86 (by simp) (x:=.d (.k (.slice none 0 0))) (by simp) happ (by simp [a0i,rowsOf]) (by simp) (a1b _) (fun r hr=>by simp only [List.mem_singleton] at hr;subst hr;rfl) (by simp) (by simp) fun x' H3 happ' _ _=>?_
   simp [happ'.plain.all,happ'.only,hw']
   refine NX.go (i+1,x',H3) (by simp only;omega) ⟨h,?_⟩ (by simp [happ'.only])
   rw [hsn];exact happ'
  ·rcases List.eq_nil_or_concat O with e | ⟨o,w,e⟩
   ·subst e;exact absurd rfl k5
   ·rw [List.concat_eq_append] at e
    subst e
    rw [a7g] at hsn
    subst k3
    have hol:(o ++ [w]).length=o.length+1:=by simp
    have hwo:IntKind.i64.wrap (o.length:Int)=o.length:=by rw [wrap64] <;> omega
    obtain ⟨F,hF⟩:∃ F,a1e (o.map a0i)=F:=⟨_,rfl⟩
    have hfl:a1e (o.map a0i ++ [a0i w])=F ++ [lvI w.rec_.at_,lvI w.rec_.key,lvI w.rec_.val,lvI w.n]:=by rw [<- hF];simp [a1e,a0i]
    have hal4:F.length=o.length * 4:=by rw [<- hF];exact b0d (f:=a0i) (fun _=>rfl) o
    have hdr:∀ B:List LV,List.drop (o.length * 4) (F ++ B)=B:=fun B=>by rw [<- hal4,List.drop_left]
    have hdr3:∀ a b c d:LV,List.drop (o.length * 4+3) (F ++ [a,b,c,d])=[d]:=fun a b c d=>by rw [<- List.drop_drop,hdr];rfl
    have htk3:∀ a b c d:LV,List.take (o.length * 4+3) (F ++ [a,b,c,d])=F ++ [a,b,c]:=fun a b c d=>by rw [<- hal4,List.take_length_add_append];rfl
    have hdr4:∀ a b c d:LV,List.drop (o.length * 4+3+1) (F ++ [a,b,c,d])=[]:=fun a b c d=>List.drop_eq_nil_of_le (by simp;omega)
    simp [h,List.getElem?_eq_getElem h,hx,a0i]
    refine AW.draw cc [] (.q 0<|.q 1<|.q 2<|.q 3<|.q 4<|.q 5<|.q 6<|.q 7<|.q 9<|.q 8<|.q 10<|.q 11<|.q 12<|.done) (by kernel_rfl) ?_
    simp [k4,hwo,hfl,hdr,hdr3,hal4]
    refine ⟨by omega,fun q1 q2 q3=>?_,fun q=>?_⟩
    ·have hr:w.rec_=x.rec_:=by
      obtain ⟨⟨a1,a2,a3⟩,_⟩:=w
      obtain ⟨⟨b1,b2,b3⟩,_⟩:=x
      simp at q1 q2 q3 |-
      exact ⟨q1,q2,q3⟩
     rw [if_pos hr] at hsn
     have hb1:=hbd w (by simp)
     have hb2:=hn' x hxm
     have hwn:IntKind.i64.wrap (w.n+x.n)=w.n+x.n:=by
      have:(1000000000000:Int) * ((l'.take i).length:Int)<=1000000000000 * 1000000:=by
       refine Int.mul_le_mul_of_nonneg_left ?_ (by omega)
       omega
      rw [wrap64] <;> omega
     refine AW.draw cc [] (.q 0<|.q 1<|.q 2<|.q 3<|.q 4<|.q 6<|.q 5<|.q 7<|.q 8<|.q 9<|.q 10<|.f<|.one 11<|.done) (by kernel_rfl) ?_
     simp [k4,hwo,hfl,hdr,hdr3,hal4,hwn,htk3,hdr4,hw']
     refine ⟨by omega,?_⟩
     refine NX.go (i+1,.vs nv gv 4 0 (o.length+1),H2.set nv (.vec 86 gv 4 (a1e ((o ++ [(⟨w.rec_,w.n+x.n⟩:Item)]).map a0i)) false)) (by simp only;omega) ⟨h,?_⟩ (by simp [a1e,a0i,<- hF])
     rw [hsn]
     refine ⟨.inr ⟨nv,gv,k1,by rw [GH.a0l];exact k2,by simp,by rw [GH.a0f,if_pos rfl],by simp⟩,by rw [GH.a0l];exact happ.nx,fun m hm=>by rw [GH.a0f,if_neg (by omega)];exact happ.ob m hm⟩
    ·have hr:¬ w.rec_=x.rec_:=fun e=>q (by rw [e]) (by rw [e]) (by rw [e])
     rw [if_neg hr] at hsn
     refine APK.appV (ys:=[a0i x]) (rows:=(o ++ [w]).map a0i) tyE30 rfl tyE86 (by simp) (x:=.vs nv gv 4 0 (o.length+1)) (by simp) (by simpa using happ) (by simp [a0i,rowsOf]) (by simp) (a1b _) (fun r hr=>by simp only [List.mem_singleton] at hr;subst hr;rfl) (by simp;omega) (by simp) fun x' H3 happ' _ _=>?_
     simp [happ'.plain.all,happ'.only,hw']
     refine NX.go (i+1,x',H3) (by simp only;omega) ⟨h,?_⟩ (by simp [happ'.only])
     rw [hsn];simpa using happ'
 ·have:i=l'.length:=by omega
  subst this
  rw [List.take_length] at happ hal
  obtain ⟨M,hM⟩:∃ M,adjL l'=M:=⟨_,rfl⟩
  rw [hM] at happ hal
  have hMb:=f4d hp hnd
  rw [hM] at hMb
  rcases id happ.is with ⟨k1,k2⟩ | ⟨nv,gv,k1,k2,k3,k4,k5⟩
  ·have hM0:M=[]:=by simpa using k1
   subst hM0
   subst k2
   refine AW.ev cc ?_
   simp
   refine AW.a0w cc (fun st:Nat=>⟨[(7,.d (.k (.slice none 0 0))),(48,.d (.k (.slice none 0 0))),(49,lvI (0:Nat)),(50,lvI (0:Nat))],[],H2⟩) (fun st=>0) (fun st=>True) 0 ⟨trivial,by simp⟩ ?_
   rintro j _
   simp
   exact fun hz=>⟨a0m happ.nx happ.ob hw.none,by rw [<- hMb];rfl⟩
  ·subst k3
   refine AW.thaw (n:=nv) (g:=gv) (sz:=4) (e:=86) (ex:=false) (M.map a0i) k4 rfl (a1b _) ?_
   refine AW.ev cc ?_
   obtain ⟨H4,hH4⟩:∃ H4:GH,({ obj:=fun m=>if m=nv then none else Option.map (GO.thaw nv gv 4 (List.map a0i M)) (H2.obj m),next:=H2.next }:GH)=H4:=⟨_,rfl⟩
   have hof:∀ m,m < H.next->H4.obj m=H.obj m:=fun m hm=>by rw [<- hH4];exact a9e hw k1 (fun k hk=>happ.ob k hk) hm
   have hnf:H.next<=H4.next:=by rw [<- hH4];exact happ.nx
   simp
   rw [hH4]
   refine AW.a0w cc (fun st:Nat × LV × GH=>⟨[(7,st.2.1),(48,sl (M.map a0i)),(49,lvI M.length),(50,lvI st.1)],[],st.2.2⟩) (fun st=>M.length - st.1)
    (fun st=>st.1<=M.length/\AppX 86 4 H4 st.2.1 (((M.take st.1).filter fun x=>decide (x.n ≠ 0)).map a0i) st.2.2) (0,.d (.k (.slice none 0 0)),H4) ⟨⟨Nat.zero_le _,by simpa using AppX.nil⟩,by simp [List.take_of_length_le]⟩ ?_
   rintro ⟨j,z,H3⟩ ⟨hj,happ2⟩
   simp only at hj happ2
   simp
   refine ⟨fun h=>?_,fun h=>?_⟩
   ·obtain ⟨x,hx⟩:∃ x,M[j]=x:=⟨_,rfl⟩
    have hta:M.take (j+1)=M.take j ++ [x]:=by rw [<- a0p h,hx]
    have hw':=wrap_succ (n:=9223372036854775807) (show j < 9223372036854775807 by omega)
    have hlt:((M.take j).filter fun x=>decide (x.n ≠ 0)).length<=j:=Nat.le_trans (List.length_filter_le _ _) (by simp;omega)
    have hsn:(M.take (j+1)).filter (fun x=>decide (x.n ≠ 0))=(M.take j).filter (fun x=>decide (x.n ≠ 0)) ++ (if x.n ≠ 0 then [x] else []):=by
     rw [hta,List.filter_append]
     by_cases q:x.n=0 <;> simp [q]
    simp [h,List.getElem?_eq_getElem h,hx,a0i,happ2.plain.all]
    refine ⟨fun q=>?_,fun q=>?_⟩
    ·refine APK.appX (ys:=[a0i x]) tyE30 rfl tyE86 (by simp) (x:=z) (by simp) happ2 (by simp [a0i,rowsOf]) (by simp) (a1b _) (fun r hr=>by simp only [List.mem_singleton] at hr;subst hr;rfl) (by simp only [List.length_map,List.length_singleton];omega) (by simp) fun x' H5 happ' _ _=>?_
     simp [happ'.plain.all,happ'.only,hw']
     refine NX.go (j+1,x',H5) (by simp only;omega) ⟨h,?_⟩ (by simp [happ'.only])
     rw [hsn,if_pos q,List.map_append];exact happ'
    ·rw [if_neg (by simpa using q),List.append_nil] at hsn
     exact NX.go (j+1,z,H3) (by simp only;omega) ⟨h,by rw [hsn];exact happ2⟩ (by simp [happ2.only,hw'])
   ·have:j=M.length:=by omega
    subst this
    rw [List.take_length] at happ2
    simp [happ2.plain.all]
    rw [hMb] at happ2
    exact fun hz=>⟨H,a0m (Nat.le_trans hnf happ2.nx) (fun m hm=>by rw [happ2.ob m (by omega)];exact hof m hm) hw.none,by rw [happ2.fz];trivial,by rw [happ2.fz];rfl,rfl⟩
end Go.Aft
end
section
set_option maxRecDepth 20000
namespace Go.Aft
open Go.RowKit
open Go.Proofs.Tryz
section
variable {H:Type} {enc:TypeId × Value->H} {w:World}
theorem RdFs.conv {P:Program} {α β:Type} {n off fuel:Nat} {fs:List Field} {r:α->List DV} {fit:α->Prop} {r':β->List DV} {fit':β->Prop} (h:RdFs enc P w n fs off r fit fuel) (g:α->β) (hr:∀ x,r' (g x)=r x) (hf:∀ x,fit x->fit' (g x)):RdFs enc P w n fs off r' fit' fuel :=
 fun cs xs h1 h2=>by
  obtain ⟨x,q1,q2⟩:=h cs xs h1 h2
  exact ⟨g x,by rw [hr];exact q1,fun q=>hf x (q2 q)⟩
theorem f4u (fuel:Nat):Rd enc prog w 27 rRec (fun _=>True) fuel :=
 Rd.struct underlying27 fuel fun f hf=>((RdFs.cons (n:=3) rfl (Rd.int underlying3 f)<|RdFs.cons rfl (Rd.int underlying3 f)<|RdFs.cons rfl (Rd.int underlying3 f)<|RdFs.nil)).conv (fun x=>⟨x.1,x.2.1,x.2.2.1⟩) (fun _=>rfl) (fun _ _=>trivial)
theorem f2o:∀ fuel,Rd enc prog w 25 a1h (fun _=>True) fuel:=fun fuel=>by
 induction fuel using Nat.strongRecOn with
 | _ fuel ih =>
  refine Rd.struct underlying25 fuel fun f hf=>?_
  refine (RdFs.cons (n:=3) rfl (Rd.int underlying22 f)<|RdFs.cons rfl (Rd.int underlying3 f)<|RdFs.cons rfl (Rd.slice (r:=a1h) (fit:=fun _=>True) underlying23 (by decide +kernel) (fun x=>?_) f fun g hg=>ih g (by omega))<|RdFs.nil).conv (fun x=>.mk x.1 x.2.1 x.2.2.1) (fun x=>?_) (fun _ _=>trivial)
  ·rw [rCalc_len];decide +kernel
  ·rw [a1h,a5j];rfl
theorem f4v:∀ fuel,Rd enc prog w 68 rExp (fun _=>True) fuel:=fun fuel=>by
 induction fuel using Nat.strongRecOn with
 | _ fuel ih =>
  refine Rd.struct underlying68 fuel fun f hf=>?_
  refine (RdFs.cons (n:=6) rfl (Rd.int underlying66 f)<|RdFs.cons rfl (Rd.str underlying9 f)<|RdFs.cons rfl (Rd.int underlying3 f)<|RdFs.cons rfl (Rd.int underlying28 f)<|RdFs.cons rfl (Rd.slice (r:=a1h) (fit:=fun _=>True) underlying23 (by decide +kernel) (fun x=>?_) f fun g hg=>f2o g)<|RdFs.cons rfl (Rd.slice (r:=rExp) (fit:=fun _=>True) underlying64 (by decide +kernel) (fun x=>?_) f fun g hg=>ih g (by omega))<|RdFs.nil).conv (fun x=>.mk x.1 x.2.1 x.2.2.1 x.2.2.2.1 x.2.2.2.2.1 x.2.2.2.2.2.1) (fun x=>?_) (fun _ _=>trivial)
  ·rw [rCalc_len];decide +kernel
  ·rw [rExp_len];decide +kernel
  ·rw [rExp,a5j,b8f];rfl
theorem f4w (fuel:Nat):Rd enc prog w 70 rDef (fun d=>a2b d.name) fuel :=
 Rd.struct underlying70 fuel fun f hf=>(RdFs.cons (n:=7) rfl (Rd.str underlying9 f)<|RdFs.cons rfl (f4v f)<|RdFs.nil).conv (fun x=>⟨x.1,x.2.1⟩) (fun x=>by simp [rDef]) (fun x h=>h.1)
theorem f2n (fuel:Nat):Rd enc prog w 42 a0h fitP fuel :=
 Rd.struct underlying42 fuel fun f hf=>(RdFs.cons (n:=2) rfl (Rd.slice (r:=rS) (fit:=a2b) underlying39 (by decide +kernel) (fun x=>by rw [rS,show prog.cellsOf 9=1 by decide +kernel];rfl) f fun g hg=>Rd.str underlying9 g)<|RdFs.cons rfl (Rd.slice (r:=rDef) (fit:=fun d=>a2b d.name) underlying40 (by decide +kernel) (fun x=>by rw [rDef_len];decide +kernel) f fun g hg=>f4w g)<|RdFs.nil).conv (fun x=>⟨x.1,x.2.1⟩) (fun x=>rfl) (fun x h s hs=>by
  rcases List.mem_append.1 hs with q | q
  ·exact h.1 s q
  ·obtain ⟨d,hd,rfl⟩:=List.mem_map.1 q
   exact h.2.1 d hd)
end
end Go.Aft
end
section
set_option maxRecDepth 20000
namespace Go.Aft
open Go.Proofs.Tryz
end Go.Aft
end
section
set_option maxRecDepth 20000
namespace Go.Aft
open Go.Proofs.Tryz
end Go.Aft
end
