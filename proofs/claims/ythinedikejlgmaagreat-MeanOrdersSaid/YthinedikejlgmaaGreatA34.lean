import Derived.Test.YthinedikejlgmaaGreatA32
import Derived.Test.YthinedikejlgmaaGreatA33
import Derived.Shelf.SlSortCmp.WholeK
import Derived.Shelf.SlGeneric
import Derived.Test.YthinedikejlgmaaGreatProg
import Derived.Test.YthinedikejlgmaaGreatA23
set_option linter.all false
section
set_option maxRecDepth 20000
namespace Go.Proofs
open Go.Shelf
end Go.Proofs
namespace Go.Aft
open Go.RowKit Go.Sort
open Go.Shelf
open Go.Proofs (CmpLays)
theorem e8z {w w':World} (hb:Below w.heap.size w w') (hd:w.drawn<=w'.drawn):∃ q os',w'=grow (w.drewN q) os':=by
 obtain ⟨e1,e2,e3,e4,e5⟩:=hb
 refine ⟨w'.drawn - w.drawn,w'.heap.extract w.heap.size w'.heap.size,?_⟩
 obtain ⟨hp,tp,dr,o,out⟩:=w'
 obtain ⟨hp0,tp0,dr0,o0,out0⟩:=w
 simp only at e1 e2 e3 e4 e5 hd
 subst e1 e2 e3
 simp only [grow,World.drewN]
 congr 1
 ·refine Array.ext_getElem? fun i=>?_
  by_cases h:i < hp0.size
  ·rw [Array.getElem?_append_left h];exact e5 i h
  ·rw [Array.getElem?_append_right (by omega),Array.getElem?_extract]
   by_cases h2:i < hp.size
   ·rw [if_pos (by omega)];congr 1;omega
   ·rw [if_neg (by omega),Array.getElem?_eq_none (by omega)]
 ·omega
theorem AFun.f1x {P:Program} {f:FuncId} {args:List LV} {v:LV} (h:AFun P f args v) (w:World) (vs:List Value) (ha:LRs (allG w) 0 noL args vs) :
  Calls P f vs.toArray w fun e w'=>(∃ G x,e=.returned x/\LR G 0 noL v x)/\∃ q os',w'=grow (w.drewN q) os':=by
 refine Calls.mono ((h H0).2 (allG w) w vs (e6k w) (fun b k q=>by cases q) ha) ?_
 rintro e w' ⟨ce,H',G',⟨rfl,rfl⟩,hE,hM,hN,hx⟩
 obtain ⟨x,rfl,hr⟩:=hE
 exact ⟨⟨G',x,rfl,hr⟩,e8z ⟨hx.os,hx.tape,hx.output,hx.size,fun k hk=>hx.frame k hk (.inl rfl)⟩ hx.drawn⟩
theorem c9a (w:World) (q:Nat) (os:Array Obj):∀ x,x < w.heap.size->(grow (w.drewN q) os).heap[x]?=w.heap[x]?:=fun x hx=>by
 simp only [grow,World.drewN];rw [Array.getElem?_append_left hx]
theorem c8y (w:World) (q:Nat) (os:Array Obj):w.heap.size<=(grow (w.drewN q) os).heap.size:=by
 simp only [grow,World.drewN,Array.size_append];omega
section
variable {E:Ent} {G:Gh} {lm:Nat->Option Nat} {L:Nat->Option (List LV)} {H:GH} {w:World}
theorem MR.grown (h:MR G lm L H w) (q:Nat) (os:Array Obj):MR G lm L H (grow (w.drewN q) os):=by
 have hold:=c9a w q os
 refine ⟨fun b o v hv=>?_,h.immOwn,fun b hb=>h.fresh b (Nat.le_trans (c8y w q os) hb),h.lmL,?_,fun n o ho=>?_⟩
 ·have hc:=h.imm b o v hv
  rw [a2t (hold b (cell_lt hc))];exact hc
 ·exact h.a5d (Nat.le_refl _) (Gh.le_refl _ _) fun b k hb=>⟨hb,hold b (own_lt h (b:=b) (by rw [hb];simp))⟩
 ·obtain ⟨h1,h2⟩:=h.nmd n o ho
  exact ⟨h1,a3l (Nat.le_refl _) h1 (Gh.le_refl _ _) h2 ⟨rfl,rfl⟩ fun b hb=>⟨hb,hold b (own_lt h (b:=b) (by rw [hb];simp)),fun _ _ q=>q⟩⟩
theorem Ext.grown (h:Ext E G H w) (q:Nat) (os:Array Obj):Ext E G H (grow (w.drewN q) os) :=
 Ext.trans h ⟨Gh.le_refl _ _,Nat.le_refl _,rfl,rfl,rfl,by simp only [grow,World.drewN];omega,c8y w q os,fun b hb _=>c9a w q os b hb,fun b _=>.inl rfl⟩
end
theorem f3z {G:Gh} {nx k:Nat} {w:World} {cb:List Value} (h:LRs G nx noL [.ip [.fn (.func k) [] []] 0] cb) (hm:∀ b o v,G.M b o=some v->w.cell? ⟨b,o,none⟩=some v):LRs (allG w) 0 noL [.ip [.fn (.func k) [] []] 0] cb:=by
 unfold LRs at h |-
 obtain ⟨v,r,rfl,h1,h2⟩:=h
 refine ⟨v,r,rfl,?_,by unfold LRs at h2 |-;exact h2⟩
 unfold LR at h1 |-
 obtain ⟨b,hb,h1⟩:=h1
 refine ⟨b,hb,?_⟩
 unfold IR at h1 |-
 obtain ⟨⟨v',q1,q2,q3⟩,h1⟩:=h1
 refine ⟨⟨v',hm _ _ _ q1,q2,?_⟩,by unfold IR;trivial⟩
 unfold LR at q3 |-
 obtain ⟨fs,cs,e,r1,r2⟩:=q3
 exact ⟨fs,cs,e,by unfold LRs at r1 |-;exact r1,by unfold LRs at r2 |-;exact r2⟩
def encE (e:Event):List Value:=[.int .i64 e.src,.int .i64 e.id,.int .i64 e.rec_.at_,.int .i64 e.rec_.key,.int .i64 e.rec_.val]
theorem e6u {M:Mem} (e:Event):RL M (a0t e) (encE e):=by
 simp [a0t,rRec,encE,RL,DR,Value.oneCell']
theorem b7i {w:World} {blk off m:Nat} {dk:Array Event} {os:Array Obj} {b o:Nat} {v:Value} (hb:b ≠ blk) (h:w.cell? ⟨b,o,none⟩=some v):(Go.Proofs.sortWorldK encE 5 w blk off m dk os).cell? ⟨b,o,none⟩=some v:=by
 unfold Go.Proofs.sortWorldK putRowK
 have h1:(putRow id (Go.Sort.ahead w m) blk off (flatK encE 5 dk)).cell? ⟨b,o,none⟩=some v:=by
  rw [cell?_putRow_other id _ _ _ _ _ (.inl hb)];exact h
 generalize putRow id (Go.Sort.ahead w m) blk off (flatK encE 5 dk)=w1 at h1 |-
 have hlt:=cell_lt h1
 rw [a2t (show (grow w1 os).heap[b]?=w1.heap[b]? by simp only [grow];rw [Array.getElem?_append_left hlt])]
 exact h1
open Go.Proofs.Tryz in
theorem f5x {cf:Event->Event->Int} {k:Nat} {F:FuncId} (hcf:∀ x y,AFun prog F ([lv (a0t x),lv (a0t y)] ++ [.ip [.fn (.func k) [] []] 0]) (lvI (cf x y))) {G:Gh} {nx blk off size:Nat} {w:World} {cb:List Value}
  (hcb:LRs G nx noL [.ip [.fn (.func k) [] []] 0] cb) (hm:∀ b o v,G.M b o=some v->b ≠ blk/\w.cell? ⟨b,o,none⟩=some v):CmpLays prog F cb.toArray encE 5 cf blk off size w:=by
 intro m os dk hs x y
 have hcb':=f3z (w:=Go.Proofs.sortWorldK encE 5 w blk off m dk os) hcb fun b o v hv=>b7i (hm b o v hv).1 (hm b o v hv).2
 have:=(hcf x y).f1x (Go.Proofs.sortWorldK encE 5 w blk off m dk os) ([.agg (encE x).toArray,.agg (encE y).toArray] ++ cb) (by
  simp only [List.cons_append,List.nil_append]
  unfold LRs;refine ⟨_,_,rfl,by unfold LR;exact ⟨_,rfl,b6f (e6u x)⟩,?_⟩
  unfold LRs;refine ⟨_,_,rfl,by unfold LR;exact ⟨_,rfl,b6f (e6u y)⟩,hcb'⟩)
 refine Calls.mono (by simpa using this) ?_
 rintro e w' ⟨⟨G',z,rfl,hr⟩,hg⟩
 have hr:LR G' 0 noL (.d (.k (.int .i64 (cf x y)))) z:=hr
 unfold LR DR at hr
 exact ⟨by rw [hr.1],hg⟩
theorem d1r {w:World} {b off:Nat} {F:Array Value} {c:Array Value} {e:TypeId} {fr:Nat × Nat} (h:w.heap[b]?=some (.cells c e fr)):putRow id w b off F=setB w b (.cells (putCells id off F c) e fr):=by
 unfold putRow mapBlock setB
 congr 1
 refine Array.ext_getElem? fun i=>?_
 rw [Array.getElem?_modify,Array.getElem?_setIfInBounds]
 by_cases q:b=i
 ·subst q
  have hb:=(Array.getElem?_eq_some_iff.1 h).2
  simp [h,onCells,heap_lt h,hb]
 ·simp [q]
end Go.Aft
end
section
set_option maxRecDepth 20000
namespace Go.Proofs
open Go.Shelf
def Tryz.itSort_ren:Go.Shelf.Ren:=⟨fun | 14=>223 | 20=>256 | 21=>257 | 22=>258 | 23=>259 | 24=>260 | 25=>261 | 26=>262 | 27=>263 | 46=>276 | 47=>268 | 48=>269 | 49=>277 | 50=>278 | 15=>215 | 57=>282 | 28=>247 | 29=>248 | n=>n,fun | 24=>86 | 22=>29 | 3=>3 | 25=>238 | 4=>4 | 0=>0 | 46=>275 | 45=>274 | 50=>204 | 66=>302 | 39=>252 | 55=>80 | 70=>306 | 76=>313 | 77=>314 | 53=>282 | 5=>5 | 9=>9 | n=>n,fun | n=>n⟩
theorem Tryz.itSort:Go.Proofs.SlLaysF0.n14 Tryz.prog Tryz.itSort_ren:={
 mixed:=by kernel_rfl
 f14:=⟨Tryz.f223.name,by decide,Tryz.func223.trans (congrArg some (by kernel_rfl))⟩
 f15:=Tryz.func215.trans (congrArg some (by kernel_rfl))
 f20:=⟨Tryz.f256.name,by decide,Tryz.func256.trans (congrArg some (by kernel_rfl))⟩
 f21:=⟨Tryz.f257.name,by decide,Tryz.func257.trans (congrArg some (by kernel_rfl))⟩
 f22:=⟨Tryz.f258.name,by decide,Tryz.func258.trans (congrArg some (by kernel_rfl))⟩
 f23:=⟨Tryz.f259.name,by decide,Tryz.func259.trans (congrArg some (by kernel_rfl))⟩
 f24:=⟨Tryz.f260.name,by decide,Tryz.func260.trans (congrArg some (by kernel_rfl))⟩
 f25:=⟨Tryz.f261.name,by decide,Tryz.func261.trans (congrArg some (by kernel_rfl))⟩
 f26:=⟨Tryz.f262.name,by decide,Tryz.func262.trans (congrArg some (by kernel_rfl))⟩
 f27:=⟨Tryz.f263.name,by decide,Tryz.func263.trans (congrArg some (by kernel_rfl))⟩
 f28:=Tryz.func247.trans (congrArg some (by kernel_rfl))
 f29:=Tryz.func248.trans (congrArg some (by kernel_rfl))
 f46:=⟨Tryz.f276.name,by decide,Tryz.func276.trans (congrArg some (by kernel_rfl))⟩
 f47:=Tryz.func268.trans (congrArg some (by kernel_rfl))
 f48:=Tryz.func269.trans (congrArg some (by kernel_rfl))
 f49:=⟨Tryz.f277.name,by decide,Tryz.func277.trans (congrArg some (by kernel_rfl))⟩
 f50:=⟨Tryz.f278.name,by decide,Tryz.func278.trans (congrArg some (by kernel_rfl))⟩
 f57:=⟨Tryz.f282.name,by decide,Tryz.func282.trans (congrArg some (by kernel_rfl))⟩
 t0:=Tryz.underlying0
 a0:=Tryz.isAgg0
 z0:=Tryz.sizeOf0
 v0:=Tryz.zeroValue0
 t3:=Tryz.underlying3
 a3:=Tryz.isAgg3
 z3:=Tryz.sizeOf3
 v3:=Tryz.zeroValue3
 t4:=Tryz.underlying4
 a4:=Tryz.isAgg4
 z4:=Tryz.sizeOf4
 v4:=Tryz.zeroValue4
 t5:=Tryz.underlying5
 a5:=Tryz.isAgg5
 z5:=Tryz.sizeOf5
 v5:=Tryz.zeroValue5
 t9:=Tryz.underlying9
 a9:=Tryz.isAgg9
 z9:=Tryz.sizeOf9
 v9:=Tryz.zeroValue9
 t22:=Tryz.underlying29
 a22:=Tryz.isAgg29
 z22:=Tryz.sizeOf29
 v22:=Tryz.zeroValue29
 t25:=Tryz.underlying238
 a25:=Tryz.isAgg238
 z25:=Tryz.sizeOf238
 v25:=Tryz.zeroValue238
 t39:=Tryz.underlying252
 a39:=Tryz.isAgg252
 z39:=Tryz.sizeOf252
 v39:=Tryz.zeroValue252
 t45:=Tryz.underlying274
 a45:=Tryz.isAgg274
 z45:=Tryz.sizeOf274
 v45:=Tryz.zeroValue274
 t46:=Tryz.underlying275
 a46:=Tryz.isAgg275
 z46:=Tryz.sizeOf275
 v46:=Tryz.zeroValue275
 t50:=Tryz.underlying204
 a50:=Tryz.isAgg204
 z50:=Tryz.sizeOf204
 v50:=Tryz.zeroValue204
 t53:=Tryz.underlying282
 a53:=Tryz.isAgg282
 z53:=Tryz.sizeOf282
 v53:=Tryz.zeroValue282
 t55:=Tryz.underlying80
 a55:=Tryz.isAgg80
 z55:=Tryz.sizeOf80
 v55:=Tryz.zeroValue80
 t66:=Tryz.underlying302
 a66:=Tryz.isAgg302
 z66:=Tryz.sizeOf302
 v66:=Tryz.zeroValue302
 t70:=Tryz.underlying306
 a70:=Tryz.isAgg306
 z70:=Tryz.sizeOf306
 v70:=Tryz.zeroValue306
 t76:=Tryz.underlying313
 a76:=Tryz.isAgg313
 z76:=Tryz.sizeOf313
 v76:=Tryz.zeroValue313
 t77:=Tryz.underlying314
 a77:=Tryz.isAgg314
 z77:=Tryz.sizeOf314
 v77:=Tryz.zeroValue314 }
end Go.Proofs
namespace Go.Aft
open Go.RowKit Go.Sort
open Go.Shelf
open Go.Proofs (CmpLays)
section
variable {α:Type} [Inhabited α] {enc:α->List Value} {sz:Nat} {r:α->List DV}
def flG (enc:α->List Value) (l:List α):List Value:=(l.map enc).flatten
theorem c5p (hl:∀ x,(enc x).length=sz):∀ l:List α,(flG enc l).length=l.length * sz
 | []=>by simp [flG]
 | e :: l=>by
  have:=c5p hl l
  simp only [flG,List.map_cons,List.flatten_cons,List.length_append,List.length_cons,hl] at this |-
  rw [this,Nat.add_mul];omega
theorem d3k (hl:∀ x,(enc x).length=sz) (h0:0 < sz):∀ (l:List α) (j:Nat),j < l.length * sz->(flG enc l)[j]?=some ((enc (l[j / sz]?.getD default))[j % sz]!)
 | [],j,h=>by simp at h
 | e :: l,j,h=>by
  simp only [flG,List.map_cons,List.flatten_cons]
  by_cases h5:j < sz
  ·rw [List.getElem?_append_left (by rw [hl];exact h5),Nat.div_eq_of_lt h5,Nat.mod_eq_of_lt h5]
   simp only [List.getElem?_cons_zero,Option.getD_some]
   rw [List.getElem?_eq_getElem (by rw [hl];exact h5),getElem!_pos _ _ (by rw [hl];exact h5)]
  ·rw [List.getElem?_append_right (by rw [hl];omega),hl]
   have:=d3k hl h0 l (j - sz) (by simp only [List.length_cons,Nat.add_mul] at h;omega)
   rw [flG] at this
   rw [this,Nat.div_eq_sub_div h0 (by omega:sz<=j),Nat.mod_eq_sub_mod (by omega:sz<=j)]
   simp
theorem c3c (hl:∀ x,(enc x).length=sz) (d:Array α) (j:Nat) (h:j < d.size * sz):(flatK enc sz d)[j]! = (enc (d.toList[j / sz]?.getD default))[j % sz]! := by
 have h0:0 < sz:=by
  rcases Nat.eq_zero_or_pos sz with q | q
  ·subst q;simp at h
  ·exact q
 rw [get_flatK enc sz d j h]
 have hj:j / sz < d.size:=Nat.div_lt_of_lt_mul (by rw [Nat.mul_comm];exact h)
 have:d[j / sz]! = d.toList[j / sz]?.getD default:=by
  rw [getElem!_pos d (j / sz) hj]
  simp [hj]
 rw [this]
theorem d9m (hl:∀ x,(enc x).length=sz) (d:Array α) (vs0 rest:List Value) (hv:vs0.length=d.size * sz):putCells id 0 (flatK enc sz d) (vs0 ++ rest).toArray=(flG enc d.toList ++ rest).toArray:=by
 have hf:=c5p hl d.toList
 simp only [Array.length_toList] at hf
 refine Array.ext_getElem? fun i=>?_
 simp only [putCells,Array.getElem?_mapIdx,List.getElem?_toArray,size_flatK,Nat.zero_add,Nat.zero_le,true_and,Nat.sub_zero,id]
 by_cases h:i < d.size * sz
 ·have h0:0 < sz:=by
   rcases Nat.eq_zero_or_pos sz with q | q
   ·subst q;simp at h
   ·exact q
  rw [List.getElem?_append_left (by omega),List.getElem?_append_left (by omega),d3k hl h0 _ _ (by simpa using h),List.getElem?_eq_getElem (by omega)]
  simp only [Option.map_some,if_pos h]
  rw [c3c hl d i h]
 ·rw [List.getElem?_append_right (by omega),List.getElem?_append_right (by omega),hv,hf]
  cases rest[i - d.size * sz]? <;> simp [h]
theorem e4p {G:Gh} {nx:Nat} {lm:Nat->Option Nat} (hr:∀ M x,RL M (r x) (enc x)):∀ (l:List α),LRs G nx lm (a1e (l.map r)) (flG enc l)
 | []=>by simp [a1e,LRs,flG]
 | e :: l=>by
  have:=e4p (G:=G) (nx:=nx) (lm:=lm) hr l
  simp only [a1e,flG,List.map_cons,List.flatten_cons,List.map_append] at this |-
  exact a2g (b6f (hr _ e)) this
end
def encI (x:Item):List Value:=[.int .i64 x.rec_.at_,.int .i64 x.rec_.key,.int .i64 x.rec_.val,.int .i64 x.n]
theorem d4i {M:Mem} (e:Item):RL M (a0i e) (encI e):=by
 simp [a0i,encI,RL,DR,Value.oneCell']
theorem f1r {G:Gh} {nx:Nat} {lm:Nat->Option Nat}:∀ (l:List Item) (vs:List Value),LRs G nx lm (a1e (l.map a0i)) vs->vs=flG encI l
 | [],vs,h=>by simpa [a1e,LRs,flG] using h
 | e :: l,vs,h=>by
  simp only [a1e,List.map_cons,List.flatten_cons,List.map_append] at h
  simp only [a0i,List.map_cons,List.map_nil,List.cons_append,List.nil_append] at h
  iterate 4
   unfold LRs at h
   obtain ⟨_,_,rfl,hx,h⟩:=h
   unfold LR DR at hx
   obtain ⟨rfl,_⟩:=hx
  have:=f1r l _ h
  rw [this];rfl
open Go.Proofs.Tryz in
theorem f0c {cf:Item->Item->Int} {F:FuncId} (hcf:∀ x y,AFun prog F [lv (a0i x),lv (a0i y)] (lvI (cf x y))) {blk off size:Nat} {w:World}:CmpLays prog F #[] encI 4 cf blk off size w:=by
 intro m os dk hs x y
 have:=(hcf x y).f1x (Go.Proofs.sortWorldK encI 4 w blk off m dk os) [.agg (encI x).toArray,.agg (encI y).toArray] (by
  unfold LRs;refine ⟨_,_,rfl,by unfold LR;exact ⟨_,rfl,b6f (d4i x)⟩,?_⟩
  unfold LRs;refine ⟨_,_,rfl,by unfold LR;exact ⟨_,rfl,b6f (d4i y)⟩,by unfold LRs;rfl⟩)
 refine Calls.mono (by simpa using this) ?_
 rintro e w' ⟨⟨G',z,rfl,hr⟩,hg⟩
 have hr:LR G' 0 noL (.d (.k (.int .i64 (cf x y)))) z:=hr
 unfold LR DR at hr
 exact ⟨by rw [hr.1],hg⟩
open Go.Proofs.Tryz in
theorem e8v {cf:Item->Item->Int} (hO:SWO (Go.Proofs.ltOf cf)) {F:FuncId} (hcf:∀ x y,AFun prog F [lv (a0i x),lv (a0i y)] (lvI (cf x y)))
  (d:Array Item) (h0:0 < d.size) (hsz:d.size < 4611686018427387904) (limit:Nat) (hlim:limit < 4611686018427387904) (n g:Nat) (ex:Bool) (H:GH) (ho:H.obj n=some (vecO a0i 86 g 4 d ex)) :
  a0j prog 223 [.vs n g 4 0 d.size,lvI 0,lvI d.size,lvI limit,.fn (.func F) [] []] H fun ce H'=>(∃ v,ce=.ret v)/\∃ d',PermIn 0 d.size d d'/\SortedIn (Go.Proofs.ltOf cf) 0 d.size d'/\H'=H.set n (vecO a0i 86 g 4 d' ex):=by
 refine ⟨call223,fun G w vs hM hNL hargs=>?_⟩
 unfold LRs at hargs
 obtain ⟨v0,r0,rfl,hv0,hargs⟩:=hargs
 unfold LRs at hargs
 obtain ⟨v1,r1,rfl,hv1,hargs⟩:=hargs
 unfold LRs at hargs
 obtain ⟨v2,r2,rfl,hv2,hargs⟩:=hargs
 unfold LRs at hargs
 obtain ⟨v3,r3,rfl,hv3,hargs⟩:=hargs
 unfold LRs at hargs
 obtain ⟨v4,r4,rfl,hv4,hargs⟩:=hargs
 unfold LRs at hargs
 subst hargs
 simp only [lvI] at hv1 hv2 hv3
 unfold LR at hv0 hv1 hv2 hv3 hv4
 unfold DR at hv1 hv2 hv3
 obtain ⟨rfl,_⟩:=hv1
 obtain ⟨rfl,_⟩:=hv2
 obtain ⟨rfl,_⟩:=hv3
 obtain ⟨hnx,hgt,b,o,cap,rfl,hc1,hc2,htip⟩:=hv0
 obtain ⟨fs,cs,rfl,hfs,hcs⟩:=hv4
 unfold LRs at hfs hcs
 subst hfs
 subst hcs
 obtain ⟨_,hob⟩:=hM.nmd n _ ho
 obtain ⟨t1,t2,b1,C1,vs0,rest,t3,t4,t5,t6,t7,t8,t9,t10,t11⟩:=(hob:OR G H.next w n (.vec 86 g 4 (d1j a0i d) ex))
 obtain ⟨C,e1,e2,e3⟩:=htip t1.symm
 rw [t3] at e1
 cases e1
 have hcC:cap=C1:=by omega
 subst hcC
 have ho0:o=0:=by have:=e3 (by omega);omega
 subst ho0
 have hl4:∀ x,(encI x).length=4:=fun _=>rfl
 have hvs:vs0=flG encI d.toList:=f1r _ _ t8
 have hvl:vs0.length=d.size * 4:=by rw [hvs,c5p hl4];simp
 have hblk:=heap_lt t6
 have hH:HoldsK encI 4 w b 0 d:=by
  intro j hj
  simp only [size_flatK] at hj
  constructor
  ·simp only [World.cell?,t6,Nat.zero_add,id]
   rw [c3c hl4 d j hj]
   have h1:=d3k hl4 (by omega) d.toList j (by simpa using hj)
   have h2:(flG encI d.toList ++ rest)[j]?=(flG encI d.toList)[j]?:=List.getElem?_append_left (by rw [<- hvs];omega)
   rw [hvs]
   simp at h1
   simp [h2,h1]
  ·simp [World.frozen?,t6]
 have hone:∀ x:Item,∀ v ∈ encI x,v.oneCell'=true:=fun x v hv=>by
  simp only [encI,List.mem_cons,List.not_mem_nil,or_false] at hv
  rcases hv with rfl | rfl | rfl | rfl <;> rfl
 have hcmp:=f0c hcf (blk:=b) (off:=0) (size:=d.size) (w:=w)
 have hcall:=Go.Proofs.AnyQ.pdqsortCmpFunc_all itSort 4 isAgg86 sizeOf86 encI cf F #[] hO b 0 cap d w (hcf default default H0).1 hcmp ⟨hl4,hone,hH,hblk⟩ (d.size+1) 0 d.size limit d w (by omega) rfl (Go.Proofs.SWK.start hH) (Nat.zero_le _) (Nat.le_refl _) hsz hlim (Or.inl rfl)
 refine Calls.mono hcall ?_
 rintro e w' ⟨rfl,m,os,rfl⟩
 have hpd:=pdq_sorts (Go.Proofs.ltOf cf) hO d 0 d.size limit true true (Nat.zero_le _) (Nat.le_refl _) (Or.inl rfl)
 obtain ⟨hp,hs⟩:=hpd
 generalize pdq (Go.Proofs.ltOf cf) d 0 d.size limit true true=d' at hp hs |-
 have hds:d'.size=d.size:=hp.1
 obtain ⟨ob,hob2⟩:∃ ob,Obj.cells (flG encI d'.toList ++ rest).toArray 86 (0,0)=ob:=⟨_,rfl⟩
 have hw:Go.Proofs.sortWorldK encI 4 w b 0 m d' os=grow ((setB w b ob).drewN m) os:=by
  unfold Go.Proofs.sortWorldK putRowK
  rw [putRow_ahead,d1r t6,d9m hl4 d' vs0 rest (by rw [hvl,hds]),hob2]
  rfl
 have hv:b6n G H.next (setB w b ob) b cap 86 4 (d1j a0i d') ex:=by
  refine ⟨by decide,hc2,flG encI d'.toList,rest,?_,?_,e4p (fun M x=>d4i x) _,?_,t10,?_⟩
  ·rw [a2j,if_pos ⟨rfl,hblk⟩,hob2]
  ·intro v hv
   rcases List.mem_append.1 hv with q | q
   ·obtain ⟨l,hl,q⟩:=List.mem_flatten.1 q
    obtain ⟨e,_,rfl⟩:=List.mem_map.1 hl
    exact hone e v q
   ·exact t7 v (List.mem_append_right _ q)
  ·rw [List.length_append] at t9 |-
   rw [c5p hl4,Array.length_toList,hds,<- hvl,t9]
  ·rw [e2i (sz:=4) (fun x=>rfl)];exact ⟨d'.size,Nat.mul_comm _ _⟩
 obtain ⟨r1,r2⟩:=hM.f0u (E:=⟨G,H,w⟩) ho t3 hv
 rw [hw]
 exact ⟨.ret (.tup []),_,G,⟨⟨_,rfl⟩,d',hp,hs,rfl⟩,⟨_,rfl,by unfold LR;exact ⟨[],rfl,by unfold LRs;rfl⟩⟩,r1.grown m os,hNL,(r2 (Ext.refl G H w hNL)).grown m os⟩
open Go.Proofs.Tryz in
theorem e6d (n:Nat) (hn:n < 4611686018427387904):∃ k:Nat,k < 4611686018427387904/\AFun prog 215 [.d (.k (.int .u64 n))] (lvI k):=by
 refine ⟨Lib.bitLen n,Nat.lt_of_le_of_lt (Lib.bitLen_le n 62 (by omega) (by omega)) (by omega),fun H=>⟨call215,fun G w vs hM hNL hargs=>?_⟩⟩
 unfold LRs at hargs
 obtain ⟨v0,r0,rfl,hv0,hargs⟩:=hargs
 unfold LRs at hargs
 subst hargs
 unfold LR DR at hv0
 obtain ⟨rfl,_⟩:=hv0
 have h:=Go.Proofs.Any.bits_Len (Go.Proofs.SlLaysF0.n15.bits (P:=prog) (ρ:=itSort_ren) { itSort with }) (n:Int) w (by omega) (by omega)
 rw [Int.toNat_natCast] at h
 refine Calls.mono h ?_
 rintro e w' ⟨rfl,rfl⟩
 exact ⟨.ret (lvI (Lib.bitLen n)),H,G,⟨rfl,rfl⟩,⟨_,rfl,by simp only [lvI];unfold LR DR;exact ⟨rfl,rfl⟩⟩,hM,hNL,Ext.refl G H _ hNL⟩
end Go.Aft
end
section
namespace Go.Aft
instance (a b:Event):Decidable (evLt a b):=by unfold evLt;infer_instance
theorem a8d {α:Type} {p:List α->Prop} (h0:p []) (h:∀ l a,p l->p (l ++ [a])):∀ l,p l:=by
 intro l
 rw [<- List.reverse_reverse l]
 induction l.reverse with
 | nil=>exact h0
 | cons a l ih=>rw [List.reverse_cons];exact h _ _ ih
end Go.Aft
end
section
set_option maxRecDepth 20000
namespace Go.Aft
open Go.Proofs.Tryz
open Go.Sort (swp insInner insOuter insertionSort)
@[simp] theorem rEvent_len (x:Event):(a0t x).length=5:=by simp [a0t,rRec]
theorem bits_Len64 (m:Nat) (hm:m < 256) (H:GH):a0j prog 248 [.d (.k (.int .u64 m))] H fun ce H'=>(∃ v:Int,ce=.ret (lvI v))/\H'=H:=by
 refine a0j.a1j cx0_ok func248 rfl call248 (by rw [ntmps248];simp) rfl fun hf hw=>?_
 have h1:¬ (4294967296:Int)<=m:=by omega
 have h2:¬ (65536:Int)<=m:=by omega
 have h3:¬ (256:Int)<=m:=by omega
 have h4:IntKind.wrap .u8 (m:Int)=m:=by simp [IntKind.wrap,IntKind.bits,IntKind.signed];omega
 simp [ntmps248,results248,h1,h2,h3,h4]
 exact ⟨Nat.lt_of_lt_of_le hm (Nat.le_of_eq (by kernel_rfl)),fun hz=>hz.drop (Nat.le_refl _)⟩
theorem bits_Len (m:Nat) (hm:m < 256) (H:GH):a0j prog 215 [.d (.k (.int .u64 m))] H fun ce H'=>(∃ v:Int,ce=.ret (lvI v))/\H'=H:=by
 refine a0j.a1j cx0_ok func215 rfl call215 (by rw [ntmps215];simp) rfl fun hf hw=>?_
 simp [ntmps215,results215]
 refine EC.of (bits_Len64 m hm H) (fun v H2 hR=>?_) (fun v H2 hR=>?_)
 ·obtain ⟨⟨n,e⟩,rfl⟩:=hR
  cases e
  simp
  exact fun hz=>hz.drop (Nat.le_refl _)
 ·obtain ⟨⟨n,e⟩,_⟩:=hR;cases e
end Go.Aft
end
section
set_option maxRecDepth 20000
namespace Go.Aft
open Go.Proofs.Tryz
structure Way where
 gone:Nat
 turned:Nat
 more:Nat
end Go.Aft
end
section
set_option maxRecDepth 20000
namespace Go.Aft
open Go.Proofs.Tryz
structure VApp (e:TypeId) (sz:Nat) (H0:GH) (x:LV) (rows:List (List DV)) (H:GH):Prop where
 is:rows=[]/\x=.d (.k (.slice none 0 0)) \/ ∃ n g,H0.next<=n/\n < H.next/\x=.vs n g sz 0 rows.length/\H.obj n=some (.vec e g sz (a1e rows) false)/\rows ≠ []
 nx:H0.next<=H.next
 ob:∀ m,m < H0.next->H.obj m=H0.obj m
theorem VApp.nil {e:TypeId} {sz:Nat} {H:GH}:VApp e sz H (.d (.k (.slice none 0 0))) [] H:=⟨.inl ⟨rfl,rfl⟩,Nat.le_refl _,fun _ _=>rfl⟩
theorem VApp.plain {e:TypeId} {sz:Nat} {H0 H:GH} {x:LV} {rows:List (List DV)} (h:VApp e sz H0 x rows H):Plain x:=by
 rcases h.is with ⟨_,rfl⟩ | ⟨n,g,_,_,rfl,_⟩ <;> exact ⟨rfl,trivial,rfl,rfl⟩
theorem VApp.only {e:TypeId} {sz:Nat} {H0 H:GH} {x:LV} {rows:List (List DV)} (h:VApp e sz H0 x rows H) {k:List Nat}:x.only k:=by
 rcases h.is with ⟨_,rfl⟩ | ⟨n,g,_,_,rfl,_⟩ <;> simp [LV.only]
theorem VApp.nb {e:TypeId} {sz:Nat} {H0 H:GH} {x:LV} {rows:List (List DV)} (h:VApp e sz H0 x rows H):x.nb H.next:=by
 rcases h.is with ⟨rfl,rfl⟩ | ⟨n,g,_,h2,rfl,_⟩
 ·simp [LV.nb]
 ·exact h2
theorem VApp.mono {e:TypeId} {sz:Nat} {H0 H1 H2:GH} {x:LV} {rows:List (List DV)} (h:VApp e sz H0 x rows H1) (hn:H1.next<=H2.next) (ho:∀ m,m < H1.next->H2.obj m=H1.obj m):VApp e sz H0 x rows H2:=by
 refine ⟨?_,Nat.le_trans h.nx hn,fun m hm=>by have:=h.nx;rw [ho m (by omega)];exact h.ob m hm⟩
 rcases h.is with q | ⟨n,g,q1,q2,q3,q4,q5⟩
 ·exact .inl q
 ·exact .inr ⟨n,g,q1,by omega,q3,by rw [ho n q2];exact q4,q5⟩
theorem VApp.set {e:TypeId} {sz:Nat} {H0 H:GH} {x:LV} {rows:List (List DV)} (h:VApp e sz H0 x rows H) {k:Nat} (hk:k < H0.next) (o:GO):VApp e sz (H0.set k o) x rows (H.set k o):=by
 refine ⟨?_,h.nx,fun m hm=>?_⟩
 ·rcases h.is with q | ⟨n,g,q1,q2,q3,q4,q5⟩
  ·exact .inl q
  ·exact .inr ⟨n,g,q1,q2,q3,by rw [GH.a0f,if_neg (by omega)];exact q4,q5⟩
 ·rw [GH.a0f,GH.a0f]
  split
  ·rfl
  ·exact h.ob m hm
theorem b0e (n:Nat) (rows:List (List DV)):nbs n (a1e rows):=by
 unfold a1e;exact (nbs_map n _).mpr trivial
theorem APK.appV {c:Cx} {s:S} {K:KT} {t:Nat} {T e:TypeId} {d ed:TyD} {a b:Operand} {H0:GH} {rows ys:List (List DV)} (hT:c.ty T=some d) (hd:d.k=.sl e) (he:c.ty e=some ed) (hsz:ed.sz ≠ 0)
  {x:LV} (ha:s.get a=x) (happ:VApp e ed.sz H0 x rows s.H) (hb:a9g s ed.sz (s.arg b)=some (∀ r ∈ ys,r.length=ed.sz,ys.length,a1e ys)) (hbp:s.argP b) (hr:∀ r ∈ rows,r.length=ed.sz) (hy:∀ r ∈ ys,r.length=ed.sz)
  (hl:rows.length+ys.length<=34359738368) (hv:c.pub t=.vec)
  (hk:∀ x' H',VApp e ed.sz H0 x' (rows ++ ys) H'->s.H.next<=H'.next->(∀ m,m < s.H.next->(∀ g i l,x ≠ .vs m g ed.sz i l)->H'.obj m=s.H.obj m)->@AP K (({ s with H:=H' }:S).put (some t) x')):@APK c #[a,b] #[T,T] s (some t) K:=by
 obtain ⟨k,sz,z,bt⟩:=d
 simp only at hd;subst hd
 have hap:s.argP a:=by
  unfold S.argP;rw [ha]
  rcases happ.is with ⟨_,rfl⟩ | ⟨n,g,_,_,rfl,_⟩ <;> trivial
 have harg:s.arg a=x:=by
  unfold S.arg;rw [ha];exact happ.plain.un
 refine APK.ev ?_
 by_cases hys:ys=[]
 ·subst hys
  rcases id happ.is with ⟨rfl,e1⟩ | ⟨n,g,q1,q2,e1,e2,e3⟩
  ·rw [e1] at harg
   have hvec:a3z c.ty c.pub s (some t) .append [T,T] [a,b]=some ⟨s.argP a/\s.argP b/\∀ r ∈ ([]:List (List DV)),r.length=ed.sz,.d (.k (.slice none 0 0)),.no⟩:=by
    simp only [a3z,hT,he,harg,if_true,Option.bind_some,if_neg hsz,hv,hb,Option.map_some]
    rfl
   simp only [opX,hvec,Option.some_or,RK_some]
   refine ⟨⟨hap,hbp,hy⟩,?_⟩
   have:=hk (.d (.k (.slice none 0 0))) s.H ⟨.inl ⟨rfl,rfl⟩,happ.nx,happ.ob⟩ (Nat.le_refl _) fun _ _ _=>rfl
   exact this
  ·rw [e1] at harg
   have hvec:a3z c.ty c.pub s (some t) .append [T,T] [a,b]=some ⟨s.argP a/\s.argP b/\∀ r ∈ ([]:List (List DV)),r.length=ed.sz,.vs n g ed.sz 0 rows.length,.no⟩:=by
    simp only [a3z,hT,he,harg,e2,if_true,Option.bind_some,if_neg hsz,hv,hb,Option.map_some,and_self]
    rfl
   simp only [opX,hvec,Option.some_or,RK_some]
   refine ⟨⟨hap,hbp,hy⟩,?_⟩
   have:=hk (.vs n g ed.sz 0 rows.length) s.H ⟨.inr ⟨n,g,q1,q2,by simp,by simpa using e2,by simpa using e3⟩,happ.nx,happ.ob⟩ (Nat.le_refl _) fun _ _ _=>rfl
   exact this
 ·have hyl:ys.length ≠ 0:=fun q=>hys (List.eq_nil_of_length_eq_zero q)
  rcases id happ.is with ⟨rfl,e1⟩ | ⟨n,g,q1,q2,e1,e2,e3⟩
  ·rw [e1] at harg
   have hvec:a3z c.ty c.pub s (some t) .append [T,T] [a,b]=some ⟨s.argP a/\s.argP b/\(∀ r ∈ ys,r.length=ed.sz)/\nbs s.H.next (a1e ys)/\ys.length<=34359738368,.vs s.H.next 0 ed.sz 0 ys.length,.newNm (.vec e 0 ed.sz (a1e ys) false)⟩:=by
    simp only [a3z,hT,he,harg,if_true,Option.bind_some,if_neg hsz,hv,hb,Option.map_some,if_neg hyl]
   simp only [opX,hvec,Option.some_or,RK_some]
   simp only [List.length_nil,Nat.zero_add] at hl
   refine ⟨⟨hap,hbp,hy,b0e _ _,hl⟩,?_⟩
   refine hk (.vs s.H.next 0 ed.sz 0 ys.length) (s.H.add (.vec e 0 ed.sz (a1e ys) false)) ⟨.inr ⟨s.H.next,0,happ.nx,by rw [GH.a0a];omega,by simp,by rw [GH.a0b,if_pos rfl];simp,by simpa using hys⟩,by rw [GH.a0a];have:=happ.nx;omega,fun m hm=>?_⟩ (by rw [GH.a0a];omega) (fun m hm _=>by rw [GH.a0b,if_neg (by omega)])
   have:=happ.nx
   rw [GH.a0b,if_neg (by omega)];exact happ.ob m hm
  ·rw [e1] at harg
   have hfl:=a6i hr
   have hlt:¬ ((rows.length+ys.length) * ed.sz<=(a1e rows).length):=by
    rw [hfl,Nat.add_mul]
    have:0 < ys.length * ed.sz:=Nat.mul_pos (by omega) (by omega)
    omega
   have htk:(a1e rows).take (rows.length * ed.sz)=a1e rows:=List.take_of_length_le (by rw [hfl];exact Nat.le_refl _)
   have hvec:a3z c.ty c.pub s (some t) .append [T,T] [a,b]=some ⟨s.argP a/\s.argP b/\(∀ r ∈ ys,r.length=ed.sz)/\nbs s.H.next (a1e ys)/\rows.length * ed.sz<=(a1e rows).length/\rows.length+ys.length<=34359738368,.vs n (g+1) ed.sz 0 (rows.length+ys.length),.a3b n (.vec e (g+1) ed.sz (a1e rows ++ a1e ys) false)⟩:=by
    simp only [a3z,hT,he,harg,e2,if_true,Option.bind_some,if_neg hsz,hv,hb,Option.map_some,if_neg hyl,and_self,if_neg hlt,htk]
   simp only [opX,hvec,Option.some_or,RK_some]
   refine ⟨⟨hap,hbp,hy,b0e _ _,by rw [hfl];exact Nat.le_refl _,hl⟩,?_⟩
   refine hk (.vs n (g+1) ed.sz 0 (rows.length+ys.length)) (s.H.set n (.vec e (g+1) ed.sz (a1e rows ++ a1e ys) false)) ⟨.inr ⟨n,g+1,q1,q2,by simp,by rw [GH.a0f,if_pos rfl,b6a],by simpa using fun q:rows=[]=>absurd q e3⟩,by rw [GH.a0l];exact happ.nx,fun m hm=>by rw [GH.a0f,if_neg (by omega)];exact happ.ob m hm⟩ (by rw [GH.a0l];exact Nat.le_refl _) (fun m hm hne=>?_)
   rw [GH.a0f,if_neg];intro e;subst e;exact hne _ _ _ e1
end Go.Aft
end
section
set_option maxRecDepth 20000
namespace Go.Aft
open Go.Proofs.Tryz
open Go.Sort (swp insInner insOuter insertionSort)
theorem a9e {H H2:GH} (hw:nbH H) {n g sz:Nat} {rows:List (List DV)} (hn:H.next<=n) (h:∀ m,m < H.next->H2.obj m=H.obj m) {m:Nat} (hm:m < H.next):(if m=n then none else Option.map (GO.thaw n g sz rows) (H2.obj m))=H.obj m:=by
 rw [if_neg (by omega),h m hm]
 cases ho:H.obj m with
 | none=>rfl
 | some o=>simp only [Option.map_some];rw [GO.b7f (N:=H.next) hn (hw.nb m o ho)]
theorem e0s (x:Int) (l:List Int) (hl:l.length<=1000):AFun prog 126 [sl ((x :: l).map rI)] (sl ((x :: l).map rI)):=by
 intro H
 have cc:=a0g (p:=kds [] [] [5])
 refine a0j.a3a (a0g (p:=kds [] [] [5])) func126 rfl call126 (by rw [ntmps126];simp) rfl fun hf hw=>?_
 have hlen:∀ r ∈ l.map rI,r.length=1:=fun r hr=>by obtain ⟨_,_,rfl⟩:=List.mem_map.1 hr;rfl
 have hll:(l.map rI).length=l.length:=by simp
 rw [List.map_cons]
 have hx:(rI x).length=1:=rfl
 generalize rI x=r0 at hx |-
 generalize l.map rI=rows at hlen hll |-
 simp [ntmps126,results126]
 refine AW.seq cc ?_
 simp
 refine AW.seq cc ?_
 simp
 refine AW.seq cc ?_
 simp
 refine APK.ev ?_
 have h3:rows.length+1<=34359738368:=by omega
 have ob:∀ o,(H.add o).obj H.next=some o:=fun o=>by simp [GH.a0b]
 have hnb:∀ m,nbs m (a1e (r0 :: rows)):=fun m=>b0e _ _
 have hfl:a1e (r0 :: rows) ≠ []:=fun q=>by have:=congrArg List.length q;rw [a6i (sz:=1) (by simpa [hx] using hlen)] at this;simp at this
 generalize hF:a1e (r0 :: rows)=F at hnb hfl
 have h4:rows.length<=34359738367:=by omega
 simp [hx,ob,hF,hnb,h4,GH.a1v]
 refine ⟨hlen,?_⟩
 refine AW.thaw (n:=H.next) (g:=1) (sz:=1) (e:=3) (ex:=false) (r0 :: rows) (ob _) hF.symm (by simpa [hx] using hlen) ?_
 refine AW.ev cc ?_
 simp
 exact fun hz=>a0m (by simp [GH.a0a]) (fun m hm=>a9e hw (Nat.le_refl _) (fun k hk=>by rw [GH.a0b,if_neg (by omega)]) hm) hw.none
end Go.Aft
end
