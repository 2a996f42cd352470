import Derived.Test.YtdhphbedajhmnaaGreatA34
import Derived.Test.YtdhphbedajhmnaaGreatA33
import Derived.Shelf.SlSortCmp.WholeK
import Derived.Shelf.SlGeneric
import Derived.Test.YtdhphbedajhmnaaGreatProg
set_option linter.all false
section
set_option maxRecDepth 20000
namespace Go.Proofs
open Go.Shelf
def Tryz.evSort_ren:Go.Shelf.Ren:=⟨fun | 6=>176 | 15=>218 | 14=>217 | 28=>274 | 29=>275 | 20=>266 | 21=>267 | 22=>268 | 23=>269 | 24=>270 | 25=>271 | 26=>272 | 27=>273 | 46=>302 | 47=>303 | 48=>304 | 49=>305 | 50=>306 | 57=>313 | n=>n,fun | 22=>59 | 24=>63 | 25=>283 | 3=>3 | 39=>319 | 0=>0 | 53=>358 | 55=>360 | 4=>4 | 46=>352 | 45=>351 | 50=>126 | 5=>5 | 9=>9 | 66=>383 | 70=>387 | 76=>396 | 77=>397 | n=>n,fun | n=>n⟩
theorem Tryz.evSort:Go.Proofs.SlLaysF0.n6 Tryz.prog Tryz.evSort_ren:={
 mixed:=by kernel_rfl
 f6:=⟨Tryz.f176.name,by decide,Tryz.func176.trans (congrArg some (by kernel_rfl))⟩
 f14:=⟨Tryz.f217.name,by decide,Tryz.func217.trans (congrArg some (by kernel_rfl))⟩
 f15:=Tryz.func218.trans (congrArg some (by kernel_rfl))
 f20:=⟨Tryz.f266.name,by decide,Tryz.func266.trans (congrArg some (by kernel_rfl))⟩
 f21:=⟨Tryz.f267.name,by decide,Tryz.func267.trans (congrArg some (by kernel_rfl))⟩
 f22:=⟨Tryz.f268.name,by decide,Tryz.func268.trans (congrArg some (by kernel_rfl))⟩
 f23:=⟨Tryz.f269.name,by decide,Tryz.func269.trans (congrArg some (by kernel_rfl))⟩
 f24:=⟨Tryz.f270.name,by decide,Tryz.func270.trans (congrArg some (by kernel_rfl))⟩
 f25:=⟨Tryz.f271.name,by decide,Tryz.func271.trans (congrArg some (by kernel_rfl))⟩
 f26:=⟨Tryz.f272.name,by decide,Tryz.func272.trans (congrArg some (by kernel_rfl))⟩
 f27:=⟨Tryz.f273.name,by decide,Tryz.func273.trans (congrArg some (by kernel_rfl))⟩
 f28:=Tryz.func274.trans (congrArg some (by kernel_rfl))
 f29:=Tryz.func275.trans (congrArg some (by kernel_rfl))
 f46:=⟨Tryz.f302.name,by decide,Tryz.func302.trans (congrArg some (by kernel_rfl))⟩
 f47:=Tryz.func303.trans (congrArg some (by kernel_rfl))
 f48:=Tryz.func304.trans (congrArg some (by kernel_rfl))
 f49:=⟨Tryz.f305.name,by decide,Tryz.func305.trans (congrArg some (by kernel_rfl))⟩
 f50:=⟨Tryz.f306.name,by decide,Tryz.func306.trans (congrArg some (by kernel_rfl))⟩
 f57:=⟨Tryz.f313.name,by decide,Tryz.func313.trans (congrArg some (by kernel_rfl))⟩
 t0:=Tryz.underlying0
 a0:=Tryz.isAgg0
 z0:=Tryz.sizeOf0
 v0:=Tryz.zeroValue0
 t3:=Tryz.underlying3
 a3:=Tryz.isAgg3
 z3:=Tryz.sizeOf3
 v3:=Tryz.zeroValue3
 t4:=Tryz.underlying4
 a4:=Tryz.isAgg4
 z4:=Tryz.sizeOf4
 v4:=Tryz.zeroValue4
 t5:=Tryz.underlying5
 a5:=Tryz.isAgg5
 z5:=Tryz.sizeOf5
 v5:=Tryz.zeroValue5
 t9:=Tryz.underlying9
 a9:=Tryz.isAgg9
 z9:=Tryz.sizeOf9
 v9:=Tryz.zeroValue9
 t22:=Tryz.underlying59
 a22:=Tryz.isAgg59
 z22:=Tryz.sizeOf59
 v22:=Tryz.zeroValue59
 t25:=Tryz.underlying283
 a25:=Tryz.isAgg283
 z25:=Tryz.sizeOf283
 v25:=Tryz.zeroValue283
 t39:=Tryz.underlying319
 a39:=Tryz.isAgg319
 z39:=Tryz.sizeOf319
 v39:=Tryz.zeroValue319
 t45:=Tryz.underlying351
 a45:=Tryz.isAgg351
 z45:=Tryz.sizeOf351
 v45:=Tryz.zeroValue351
 t46:=Tryz.underlying352
 a46:=Tryz.isAgg352
 z46:=Tryz.sizeOf352
 v46:=Tryz.zeroValue352
 t50:=Tryz.underlying126
 a50:=Tryz.isAgg126
 z50:=Tryz.sizeOf126
 v50:=Tryz.zeroValue126
 t53:=Tryz.underlying358
 a53:=Tryz.isAgg358
 z53:=Tryz.sizeOf358
 v53:=Tryz.zeroValue358
 t55:=Tryz.underlying360
 a55:=Tryz.isAgg360
 z55:=Tryz.sizeOf360
 v55:=Tryz.zeroValue360
 t66:=Tryz.underlying383
 a66:=Tryz.isAgg383
 z66:=Tryz.sizeOf383
 v66:=Tryz.zeroValue383
 t70:=Tryz.underlying387
 a70:=Tryz.isAgg387
 z70:=Tryz.sizeOf387
 v70:=Tryz.zeroValue387
 t76:=Tryz.underlying396
 a76:=Tryz.isAgg396
 z76:=Tryz.sizeOf396
 v76:=Tryz.zeroValue396
 t77:=Tryz.underlying397
 a77:=Tryz.isAgg397
 z77:=Tryz.sizeOf397
 v77:=Tryz.zeroValue397 }
end Go.Proofs
namespace Go.Aft
open Go.RowKit Go.Sort
open Go.Shelf
open Go.Proofs (CmpLays)
theorem grown_eq {w w':World} (hb:Below w.heap.size w w') (hd:w.drawn<=w'.drawn):∃ q os',w'=grow (w.drewN q) os':=by
 obtain ⟨e1,e2,e3,e4,e5⟩:=hb
 refine ⟨w'.drawn - w.drawn,w'.heap.extract w.heap.size w'.heap.size,?_⟩
 obtain ⟨hp,tp,dr,o,out⟩:=w'
 obtain ⟨hp0,tp0,dr0,o0,out0⟩:=w
 simp only at e1 e2 e3 e4 e5 hd
 subst e1 e2 e3
 simp only [grow,World.drewN]
 congr 1
 ·refine Array.ext_getElem? fun i=>?_
  by_cases h:i < hp0.size
  ·rw [Array.getElem?_append_left h];exact e5 i h
  ·rw [Array.getElem?_append_right (by omega),Array.getElem?_extract]
   by_cases h2:i < hp.size
   ·rw [if_pos (by omega)];congr 1;omega
   ·rw [if_neg (by omega),Array.getElem?_eq_none (by omega)]
 ·omega
theorem AFun.callsD {P:Program} {f:FuncId} {args:List LV} {v:LV} (h:AFun P f args v) (w:World) (vs:List Value) (ha:LRs (allG w) 0 noL args vs) :
  Calls P f vs.toArray w fun e w'=>(∃ G x,e=.returned x/\LR G 0 noL v x)/\∃ q os',w'=grow (w.drewN q) os':=by
 refine Calls.mono ((h H0).2 (allG w) w vs (allG_MR w) (fun b k q=>by cases q) ha) ?_
 rintro e w' ⟨ce,H',G',⟨rfl,rfl⟩,hE,hM,hN,hx⟩
 obtain ⟨x,rfl,hr⟩:=hE
 exact ⟨⟨G',x,rfl,hr⟩,grown_eq ⟨hx.os,hx.tape,hx.output,hx.size,fun k hk=>hx.frame k hk (.inl rfl)⟩ hx.drawn⟩
theorem grow_hold (w:World) (q:Nat) (os:Array Obj):∀ x,x < w.heap.size->(grow (w.drewN q) os).heap[x]?=w.heap[x]?:=fun x hx=>by
 simp only [grow,World.drewN];rw [Array.getElem?_append_left hx]
theorem grow_size (w:World) (q:Nat) (os:Array Obj):w.heap.size<=(grow (w.drewN q) os).heap.size:=by
 simp only [grow,World.drewN,Array.size_append];omega
section
variable {E:Ent} {G:Gh} {lm:Nat->Option Nat} {L:Nat->Option (List LV)} {H:GH} {w:World}
theorem MR.grown (h:MR G lm L H w) (q:Nat) (os:Array Obj):MR G lm L H (grow (w.drewN q) os):=by
 have hold:=grow_hold w q os
 refine ⟨fun b o v hv=>?_,h.immOwn,fun b hb=>h.fresh b (Nat.le_trans (grow_size w q os) hb),h.lmL,?_,fun n o ho=>?_⟩
 ·have hc:=h.imm b o v hv
  rw [cell_congr (hold b (cell_lt hc))];exact hc
 ·exact h.loc_mono (Nat.le_refl _) (Gh.le_refl _ _) fun b k hb=>⟨hb,hold b (own_lt h (b:=b) (by rw [hb];simp))⟩
 ·obtain ⟨h1,h2⟩:=h.nmd n o ho
  exact ⟨h1,OR_mono (Nat.le_refl _) h1 (Gh.le_refl _ _) h2 ⟨rfl,rfl⟩ fun b hb=>⟨hb,hold b (own_lt h (b:=b) (by rw [hb];simp)),fun _ _ q=>q⟩⟩
theorem Ext.grown (h:Ext E G H w) (q:Nat) (os:Array Obj):Ext E G H (grow (w.drewN q) os) :=
 Ext.trans h ⟨Gh.le_refl _ _,Nat.le_refl _,rfl,rfl,rfl,by simp only [grow,World.drewN];omega,grow_size w q os,fun b hb _=>grow_hold w q os b hb,fun b _=>.inl rfl⟩
end
theorem cap_all {G:Gh} {nx k:Nat} {w:World} {cb:List Value} (h:LRs G nx noL [.ip [.fn (.func k) [] []] 0] cb) (hm:∀ b o v,G.M b o=some v->w.cell? ⟨b,o,none⟩=some v):LRs (allG w) 0 noL [.ip [.fn (.func k) [] []] 0] cb:=by
 unfold LRs at h |-
 obtain ⟨v,r,rfl,h1,h2⟩:=h
 refine ⟨v,r,rfl,?_,by unfold LRs at h2 |-;exact h2⟩
 unfold LR at h1 |-
 obtain ⟨b,hb,h1⟩:=h1
 refine ⟨b,hb,?_⟩
 unfold IR at h1 |-
 obtain ⟨⟨v',q1,q2,q3⟩,h1⟩:=h1
 refine ⟨⟨v',hm _ _ _ q1,q2,?_⟩,by unfold IR;trivial⟩
 unfold LR at q3 |-
 obtain ⟨fs,cs,e,r1,r2⟩:=q3
 exact ⟨fs,cs,e,by unfold LRs at r1 |-;exact r1,by unfold LRs at r2 |-;exact r2⟩
def encE (e:Event):List Value:=[.int .i64 e.src,.int .i64 e.id,.int .i64 e.rec_.at_,.int .i64 e.rec_.key,.int .i64 e.rec_.val]
theorem RL_encE {M:Mem} (e:Event):RL M (rEvent e) (encE e):=by
 simp [rEvent,rRec,encE,RL,DR,Value.oneCell']
theorem sortWorld_other {w:World} {blk off m:Nat} {dk:Array Event} {os:Array Obj} {b o:Nat} {v:Value} (hb:b ≠ blk) (h:w.cell? ⟨b,o,none⟩=some v):(Go.Proofs.sortWorldK encE 5 w blk off m dk os).cell? ⟨b,o,none⟩=some v:=by
 unfold Go.Proofs.sortWorldK putRowK
 have h1:(putRow id (Go.Sort.ahead w m) blk off (flatK encE 5 dk)).cell? ⟨b,o,none⟩=some v:=by
  rw [cell?_putRow_other id _ _ _ _ _ (.inl hb)];exact h
 generalize putRow id (Go.Sort.ahead w m) blk off (flatK encE 5 dk)=w1 at h1 |-
 have hlt:=cell_lt h1
 rw [cell_congr (show (grow w1 os).heap[b]?=w1.heap[b]? by simp only [grow];rw [Array.getElem?_append_left hlt])]
 exact h1
open Go.Proofs.Tryz in
theorem cmpLaysE {cf:Event->Event->Int} {k:Nat} {F:FuncId} (hcf:∀ x y,AFun prog F ([lv (rEvent x),lv (rEvent y)] ++ [.ip [.fn (.func k) [] []] 0]) (lvI (cf x y))) {G:Gh} {nx blk off size:Nat} {w:World} {cb:List Value}
  (hcb:LRs G nx noL [.ip [.fn (.func k) [] []] 0] cb) (hm:∀ b o v,G.M b o=some v->b ≠ blk/\w.cell? ⟨b,o,none⟩=some v):CmpLays prog F cb.toArray encE 5 cf blk off size w:=by
 intro m os dk hs x y
 have hcb':=cap_all (w:=Go.Proofs.sortWorldK encE 5 w blk off m dk os) hcb fun b o v hv=>sortWorld_other (hm b o v hv).1 (hm b o v hv).2
 have:=(hcf x y).callsD (Go.Proofs.sortWorldK encE 5 w blk off m dk os) ([.agg (encE x).toArray,.agg (encE y).toArray] ++ cb) (by
  simp only [List.cons_append,List.nil_append]
  unfold LRs;refine ⟨_,_,rfl,by unfold LR;exact ⟨_,rfl,RL_LRs (RL_encE x)⟩,?_⟩
  unfold LRs;refine ⟨_,_,rfl,by unfold LR;exact ⟨_,rfl,RL_LRs (RL_encE y)⟩,hcb'⟩)
 refine Calls.mono (by simpa using this) ?_
 rintro e w' ⟨⟨G',z,rfl,hr⟩,hg⟩
 have hr:LR G' 0 noL (.d (.k (.int .i64 (cf x y)))) z:=hr
 unfold LR DR at hr
 exact ⟨by rw [hr.1],hg⟩
def flE (l:List Event):List Value:=(l.map encE).flatten
theorem flE_len (l:List Event):(flE l).length=l.length * 5:=by
 induction l with
 | nil=>rfl
 | cons e l ih=>simp only [flE,List.map_cons,List.flatten_cons,List.length_append] at ih |-;rw [ih];simp [encE];omega
theorem flE_get:∀ (l:List Event) (j:Nat),j < l.length * 5->(flE l)[j]?=some ((encE (l[j / 5]?.getD default))[j % 5]!)
 | [],j,h=>by simp at h
 | e :: l,j,h=>by
  simp only [flE,List.map_cons,List.flatten_cons]
  by_cases h5:j < 5
  ·rw [List.getElem?_append_left (by simpa [encE] using h5),show j / 5=0 by omega,show j % 5=j by omega]
   have:j=0 \/ j=1 \/ j=2 \/ j=3 \/ j=4:=by omega
   rcases this with rfl | rfl | rfl | rfl | rfl <;> rfl
  ·rw [List.getElem?_append_right (by simp [encE];omega)]
   have:=flE_get l (j - 5) (by simp at h;omega)
   rw [flE] at this
   rw [show j - (encE e).length=j - 5 from rfl,this,show j / 5=(j - 5) / 5+1 by omega,show (j - 5) % 5=j % 5 by omega]
   simp
theorem flE_of {G:Gh} {nx:Nat} {lm:Nat->Option Nat}:∀ (l:List Event) (vs:List Value),LRs G nx lm (flatD (l.map rEvent)) vs->vs=flE l
 | [],vs,h=>by simpa [flatD,LRs,flE] using h
 | e :: l,vs,h=>by
  simp only [flatD,List.map_cons,List.flatten_cons,List.map_append] at h
  simp only [rEvent,rRec,List.map_cons,List.map_nil,List.cons_append,List.nil_append] at h
  iterate 5
   unfold LRs at h
   obtain ⟨_,_,rfl,hx,h⟩:=h
   unfold LR DR at hx
   obtain ⟨rfl,_⟩:=hx
  have:=flE_of l _ h
  rw [this];rfl
theorem flE_LRs {G:Gh} {nx:Nat} {lm:Nat->Option Nat}:∀ (l:List Event),LRs G nx lm (flatD (l.map rEvent)) (flE l)
 | []=>by simp [flatD,LRs,flE]
 | e :: l=>by
  have:=flE_LRs (G:=G) (nx:=nx) (lm:=lm) l
  simp only [flatD,flE,List.map_cons,List.flatten_cons,List.map_append] at this |-
  exact LRs_append (RL_LRs (RL_encE e)) this
theorem flatK_get (d:Array Event) (j:Nat) (h:j < d.size * 5):(flatK encE 5 d)[j]! = (encE (d.toList[j / 5]?.getD default))[j % 5]! := by
 rw [get_flatK encE 5 d j h]
 have:d[j / 5]! = d.toList[j / 5]?.getD default:=by
  rw [getElem!_pos d (j / 5) (by omega)]
  simp [show j / 5 < d.size by omega]
 rw [this]
theorem put_cells (d:Array Event) (vs0 rest:List Value) (hl:vs0.length=d.size * 5):putCells id 0 (flatK encE 5 d) (vs0 ++ rest).toArray=(flE d.toList ++ rest).toArray:=by
 have hf:=flE_len d.toList
 simp only [Array.length_toList] at hf
 refine Array.ext_getElem? fun i=>?_
 simp only [putCells,Array.getElem?_mapIdx,List.getElem?_toArray,size_flatK,Nat.zero_add,Nat.zero_le,true_and,Nat.sub_zero,id]
 by_cases h:i < d.size * 5
 ·rw [List.getElem?_append_left (by omega),List.getElem?_append_left (by omega),flE_get _ _ (by simpa using h),List.getElem?_eq_getElem (by omega)]
  simp only [Option.map_some,if_pos h]
  rw [flatK_get d i h]
 ·rw [List.getElem?_append_right (by omega),List.getElem?_append_right (by omega),hl,hf]
  cases rest[i - d.size * 5]? <;> simp [h]
theorem putRow_setB {w:World} {b off:Nat} {F:Array Value} {c:Array Value} {e:TypeId} {fr:Nat × Nat} (h:w.heap[b]?=some (.cells c e fr)):putRow id w b off F=setB w b (.cells (putCells id off F c) e fr):=by
 unfold putRow mapBlock setB
 congr 1
 refine Array.ext_getElem? fun i=>?_
 rw [Array.getElem?_modify,Array.getElem?_setIfInBounds]
 by_cases q:b=i
 ·subst q
  have hb:=(Array.getElem?_eq_some_iff.1 h).2
  simp [h,onCells,heap_lt h,hb]
 ·simp [q]
open Go.Proofs.Tryz in
theorem event_SortG {cf:Event->Event->Int} (hO:SWO (Go.Proofs.ltOf cf)) {k:Nat} {F:FuncId} (hcf:∀ x y,AFun prog F ([lv (rEvent x),lv (rEvent y)] ++ [.ip [.fn (.func k) [] []] 0]) (lvI (cf x y)))
  (d:Array Event) (h0:0 < d.size) (hsz:d.size < 4611686018427387904) (n g:Nat) (ex:Bool) (H:GH) (ho:H.obj n=some (vecO rEvent 63 g 5 d ex)) :
  ECall prog 176 [.vs n g 5 0 d.size,.fn (.func F) [] [.ip [.fn (.func k) [] []] 0]] H fun ce H'=>(∃ v,ce=.ret v)/\∃ d',PermIn 0 d.size d d'/\SortedIn (Go.Proofs.ltOf cf) 0 d.size d'/\H'=H.set n (vecO rEvent 63 g 5 d' ex):=by
 refine ⟨call176,fun G w vs hM hNL hargs=>?_⟩
 unfold LRs at hargs
 obtain ⟨v0,r0,rfl,hv0,hargs⟩:=hargs
 unfold LRs at hargs
 obtain ⟨v1,r1,rfl,hv1,hargs⟩:=hargs
 unfold LRs at hargs
 subst hargs
 unfold LR at hv0 hv1
 obtain ⟨hnx,hgt,b,o,cap,rfl,hc1,hc2,htip⟩:=hv0
 obtain ⟨fs,cs,rfl,hfs,hcs⟩:=hv1
 unfold LRs at hfs
 subst hfs
 obtain ⟨_,hob⟩:=hM.nmd n _ ho
 obtain ⟨t1,t2,b1,C1,vs0,rest,t3,t4,t5,t6,t7,t8,t9,t10,t11⟩:=(hob:OR G H.next w n (.vec 63 g 5 (rowsV rEvent d) ex))
 obtain ⟨C,e1,e2,e3⟩:=htip t1.symm
 rw [t3] at e1
 cases e1
 have hcC:cap=C1:=by omega
 subst hcC
 have ho0:o=0:=by have:=e3 (by omega);omega
 subst ho0
 have hvs:vs0=flE d.toList:=flE_of _ _ t8
 have hvl:vs0.length=d.size * 5:=by rw [hvs,flE_len];simp
 have hblk:=heap_lt t6
 have hH:HoldsK encE 5 w b 0 d:=by
  intro j hj
  simp only [size_flatK] at hj
  constructor
  ·simp only [World.cell?,t6,Nat.zero_add,id]
   rw [flatK_get d j hj]
   have h1:=flE_get d.toList j (by simpa using hj)
   have h2:(flE d.toList ++ rest)[j]?=(flE d.toList)[j]?:=List.getElem?_append_left (by rw [<- hvs];omega)
   rw [hvs]
   simp at h1
   simp [h2,h1]
  ·simp [World.frozen?,t6]
 have hcmp:=cmpLaysE hcf (blk:=b) (off:=0) (size:=d.size) (w:=w) hcs (fun b' o' v' hv'=>⟨fun e=>by
  subst e
  rcases hM.immOwn b' o' v' hv' with q | ⟨m,e,sz,m',q1,q2,q3⟩
  ·rw [t5] at q;cases q
  ·rw [t5] at q1;cases q1;rw [ho] at q2;simp [vecO] at q2,hM.imm b' o' v' hv'⟩)
 have hcall:=Go.Proofs.AnyQ.slices_SortFunc evSort 5 isAgg63 sizeOf63 encE (fun _=>rfl) (fun x v hv=>by
  simp only [encE,List.mem_cons,List.not_mem_nil,or_false] at hv
  rcases hv with rfl | rfl | rfl | rfl | rfl <;> rfl) cf hO F cs.toArray b 0 cap d w (hcf default default H0).1 hcmp hH hblk hsz
 refine Calls.mono hcall ?_
 rintro e w' ⟨rfl,d',m,os,hp,hs,rfl⟩
 have hds:d'.size=d.size:=hp.1
 obtain ⟨ob,hob2⟩:∃ ob,Obj.cells (flE d'.toList ++ rest).toArray 63 (0,0)=ob:=⟨_,rfl⟩
 have hw:Go.Proofs.sortWorldK encE 5 w b 0 m d' os=grow ((setB w b ob).drewN m) os:=by
  unfold Go.Proofs.sortWorldK putRowK
  rw [putRow_ahead,putRow_setB t6,put_cells d' vs0 rest (by rw [hvl,hds]),hob2]
  rfl
 have hv:VecAt G H.next (setB w b ob) b cap 63 5 (rowsV rEvent d') ex:=by
  refine ⟨by decide,hc2,flE d'.toList,rest,?_,?_,flE_LRs _,?_,t10,?_⟩
  ·rw [setB_heap,if_pos ⟨rfl,hblk⟩,hob2]
  ·intro v hv
   rcases List.mem_append.1 hv with q | q
   ·obtain ⟨l,hl,q⟩:=List.mem_flatten.1 q
    obtain ⟨e,_,rfl⟩:=List.mem_map.1 hl
    simp only [encE,List.mem_cons,List.not_mem_nil,or_false] at q
    rcases q with rfl | rfl | rfl | rfl | rfl <;> rfl
   ·exact t7 v (List.mem_append_right _ q)
  ·rw [List.length_append] at t9 |-
   rw [flE_len,Array.length_toList,hds,<- hvl,t9]
  ·rw [rowsV_len (sz:=5) (fun x=>rfl)];exact ⟨d'.size,Nat.mul_comm _ _⟩
 obtain ⟨r1,r2⟩:=hM.setVec (E:=⟨G,H,w⟩) ho t3 hv
 rw [hw]
 exact ⟨.ret (.tup []),_,G,⟨⟨_,rfl⟩,d',hp,hs,rfl⟩,⟨_,rfl,by unfold LR;exact ⟨[],rfl,by unfold LRs;rfl⟩⟩,r1.grown m os,hNL,(r2 (Ext.refl G H w hNL)).grown m os⟩
end Go.Aft
end
section
set_option maxRecDepth 20000
namespace Go.Aft
open Go.Proofs.Tryz
open Go.Sort (swp insInner insOuter insertionSort SWO PermIn SortedIn)
def nilS:LV:=.d (.k (.slice none 0 0))
@[simp] theorem nilS_eq:nilS=.d (.k (.slice none 0 0)):=rfl
theorem event_insertion0 (F:FuncId) (cap:List LV) (hcap:∀ n,nbs n cap):AFun prog 266 [nilS,lvI 0,lvI 0,.fn (.func F) [] cap] (.tup []):=by
 have cc:=cxK_ok (p:=kds [] [] [])
 refine AFun.body (cxK_ok (p:=kds [] [] [])) func266 rfl call266 (by rw [ntmps266];simp) rfl fun hf H=>?_
 have w1:IntKind.wrap .i64 1=1:=rfl
 simp [ntmps266,results266,w1]
 refine AW.loopS cc (fun _:Unit=>⟨[(0,nilS),(1,lvI 0),(2,lvI 0),(3,.fn (.func F) [] cap),(8,lvI 1)],[],H⟩) (fun _=>0) (fun _=>True) () ⟨trivial,by simp [nbs_only _ (hcap 0)]⟩ ?_
 rintro _ _
 simp
theorem event_pdq0 (lim:Int) (F:FuncId) (cap:List LV) (hcap:∀ n,nbs n cap):AFun prog 217 [nilS,lvI 0,lvI 0,lvI lim,.fn (.func F) [] cap] (.tup []):=by
 have cc:=cxK_ok (p:=kds [] [] [])
 refine AFun.body (cxK_ok (p:=kds [] [] [])) func217 rfl call217 (by rw [ntmps217];simp) rfl fun hf H=>?_
 have hi:=event_insertion0 F cap hcap
 simp [ntmps217,results217] at hi |-
 refine AW.loopS cc (fun _:Unit=>⟨[(0,nilS),(1,lvI 0),(2,lvI 0),(3,lvI lim),(4,.fn (.func F) [] cap),(10,.d (.k (.bool true))),(11,.d (.k (.bool true)))],[],H⟩) (fun _=>0) (fun _=>True) () ⟨trivial,by simp [nbs_only _ (hcap 0)]⟩ ?_
 rintro _ _
 have w0:IntKind.wrap .i64 0=0:=rfl
 simp [hcap,w0]
 refine EC.afun hi ?_
 simp
theorem event_SortFunc0 (F:FuncId) (cap:List LV) (hcap:∀ n,nbs n cap) (H:GH):ECall prog 176 [nilS,.fn (.func F) [] cap] H fun ce H'=>(∃ v,ce=.ret v)/\H'=H:=by
 have cc:=cxK_ok (p:=kds [] [] [])
 refine ECall.bodyN (cxK_ok (p:=kds [] [] [])) func176 rfl call176 (by rw [ntmps176];simp) rfl fun hf hw=>?_
 have hpdq:=fun lim=>event_pdq0 lim F cap hcap
 have w0:IntKind.wrap .u64 0=0:=rfl
 simp [ntmps176,results176,w0] at hpdq |-
 refine EC.of (bits_Len 0 (by omega) H) (fun v H2 hR=>?_) (fun v H2 hR=>?_)
 rotate_left
 ·obtain ⟨⟨_,e⟩,_⟩:=hR;cases e
 obtain ⟨⟨lim,e⟩,rfl⟩:=hR
 cases e
 simp [hcap]
 refine EC.afun (hpdq lim) ?_
 simp
 exact fun hz=>hz.drop (Nat.le_refl _)
def cmpE (a b:Event):Int:=lexC (keyE a) (keyE b)
theorem cmpE_lt (a b:Event):cmpE a b < 0 ↔ evLt a b:=by
 have h3:∀ x y:Int,x < y/\cmpI x y = -1 \/ y < x/\cmpI x y=1 \/ x=y/\cmpI x y=0:=fun x y=>by unfold cmpI;split <;> (try split) <;> omega
 have e1:=h3 a.rec_.at_ b.rec_.at_
 have e2:=h3 a.src b.src
 have e3:=h3 a.id b.id
 simp only [cmpE,keyE,lexC]
 unfold evLt
 generalize cmpI a.rec_.at_ b.rec_.at_=x at *
 generalize cmpI a.src b.src=y at *
 generalize cmpI a.id b.id=z at *
 split
 ·split
  ·split <;> omega
  ·omega
 ·omega
theorem cmpE_swo:SWO (ltOf' cmpE) where
 irrefl x:=by simp only [ltOf'];rw [decide_eq_false_iff_not,cmpE_lt];exact evLt_irr x
 trans x y z h1 h2:=by
  simp only [ltOf',decide_eq_true_eq,cmpE_lt] at *
  exact evLt_trans h1 h2
 ntrans x y z h1 h2:=by
  simp only [ltOf',decide_eq_false_iff_not,cmpE_lt] at *
  unfold evLt at *;omega
def sortE (xs:List Event):List Event:=(insertionSort (ltOf' cmpE) xs.toArray 0 xs.length).toList
theorem sortE_perm (xs:List Event):(sortE xs).Perm xs:=by
 have h:=(Go.Sort.insertionSort_holds cmpE_swo xs.toArray 0 xs.toArray.size (Nat.zero_le _) (Nat.le_refl _)).1
 have h3:=h.2.2
 have e1:=h.1
 simp only [List.size_toArray] at h3 e1
 have hx:(xs.toArray.extract 0 xs.length).toList=xs:=by simp
 have hy:((insertionSort (ltOf' cmpE) xs.toArray 0 xs.length).extract 0 xs.length).toList=sortE xs:=by
  rw [sortE]
  generalize insertionSort (ltOf' cmpE) xs.toArray 0 xs.length=D at e1
  rw [<- e1];simp
 rw [hx,hy] at h3
 exact h3
theorem sortE_sorted {xs:List Event} (h:xs.Pairwise (fun a b=>¬ (a.src=b.src/\a.id=b.id))):(sortE xs).Pairwise evLt:=by
 have h2:=(Go.Sort.insertionSort_holds cmpE_swo xs.toArray 0 xs.toArray.size (Nat.zero_le _) (Nat.le_refl _)).2
 have hp:(sortE xs).Pairwise (fun a b=>¬ (a.src=b.src/\a.id=b.id)):=(sortE_perm xs).symm.pairwise h (fun {a b} q e=>q ⟨e.1.symm,e.2.symm⟩)
 rw [List.pairwise_iff_getElem] at hp |-
 intro i j hi hj hij
 have hl:=(sortE_perm xs).length_eq
 have h3:=h2 i j (Nat.zero_le _) hij (by simp;omega)
 have hsz:(insertionSort (ltOf' cmpE) xs.toArray 0 xs.length).size=xs.length:=by
  have:=(Go.Sort.insertionSort_holds cmpE_swo xs.toArray 0 xs.toArray.size (Nat.zero_le _) (Nat.le_refl _)).1.1
  simpa using this
 simp only [List.size_toArray] at h3
 rw [getElem!_pos _ i (by omega),getElem!_pos _ j (by omega)] at h3
 simp only [ltOf',decide_eq_false_iff_not,cmpE_lt] at h3
 have g:∀ k (hk:k < (sortE xs).length),(sortE xs)[k]=(insertionSort (ltOf' cmpE) xs.toArray 0 xs.length)[k]'(by omega):=fun k hk=>by simp [sortE]
 rw [<- g i hi,<- g j hj] at h3
 rcases evLt_tri _ _ h3 with q | q
 ·exact q
 ·exact absurd ⟨q.1.symm,q.2.symm⟩ (hp i j hi hj hij)
theorem sortE_of {xs:List Event} (h:xs.Pairwise (fun a b=>¬ (a.src=b.src/\a.id=b.id))) {d':Array Event} (hp:PermIn 0 xs.toArray.size xs.toArray d') (hs:SortedIn (Go.Proofs.ltOf cmpE) 0 xs.toArray.size d'):d'.toList=sortE xs:=by
 have hsz:d'.size=xs.length:=by simpa using hp.1
 have hperm:d'.toList.Perm xs:=by
  have h3:=hp.2.2
  simp only [List.size_toArray] at h3
  rw [show (xs.toArray.extract 0 xs.length).toList=xs by simp,show (d'.extract 0 xs.length).toList=d'.toList by rw [<- hsz];simp] at h3
  exact h3
 have hpw:d'.toList.Pairwise (fun a b=>¬ (a.src=b.src/\a.id=b.id)):=hperm.symm.pairwise h (fun {a b} q e=>q ⟨e.1.symm,e.2.symm⟩)
 have hso:d'.toList.Pairwise evLt:=by
  rw [List.pairwise_iff_getElem] at hpw |-
  intro i j hi hj hij
  have hi':i < d'.size:=by simpa using hi
  have hj':j < d'.size:=by simpa using hj
  have h3:=hs i j (Nat.zero_le _) hij (by simp;omega)
  rw [getElem!_pos _ i hi',getElem!_pos _ j hj'] at h3
  simp only [Go.Proofs.ltOf,decide_eq_false_iff_not,cmpE_lt] at h3
  rcases evLt_tri _ _ h3 with q | q
  ·simpa using q
  ·have hne:=hpw i j hi hj hij
   simp at hne
   exact absurd q.2.symm (hne q.1.symm)
 exact sorted_unique evLt_irr (fun _ _ _=>evLt_trans) hso (sortE_sorted h) fun e=>(hperm.mem_iff).trans (sortE_perm xs).mem_iff.symm
theorem hist_sortedBy (xs:List Event) (hlen:xs.length<=1000000) (hpw:xs.Pairwise (fun a b=>¬ (a.src=b.src/\a.id=b.id))) (x:LV) (H0 H:GH) (hv:VApp 63 5 H0 x (xs.map rEvent) H) :
  ECall prog 134 [x,.fn (.func 135) [] []] H fun ce H'=>ce=.ret x/\VApp 63 5 H0 x ((sortE xs).map rEvent) H'/\H'.next=H.next:=by
 have cc:=cxK_ok (p:=kds [3] [] [])
 have hcap:∀ n,nbs n [LV.ip [LV.fn (Fn.func 135) [] []] 0]:=fun n=>by simp [nbs,LV.nb]
 rcases id hv.is with ⟨e1,e2⟩ | ⟨n,g,q1,q2,q3,q4,q5⟩
 ·have hxs:xs=[]:=by simpa using e1
  subst hxs;subst e2
  refine ECall.bodyOW (cxK_ok (p:=kds [3] [] [])) func134 rfl call134 (by rw [ntmps134];simp) rfl fun hf hw=>?_
  have hs:=event_SortFunc0 177 _ hcap H
  simp at hs
  simp [ntmps134,results134]
  refine AW.ev cc ?_
  simp
  refine EC.of hs (fun v H2 hR=>?_) (fun v H2 hR=>?_)
  rotate_left
  ·obtain ⟨⟨_,e⟩,_⟩:=hR;cases e
  obtain ⟨_,rfl⟩:=hR
  simp
  exact fun hz=>⟨_,hz.drop (Nat.le_refl _),by simpa [sortE,insertionSort,Go.Sort.insOuter] using hv,rfl⟩
 ·have hxs:xs ≠ []:=by simpa using q5
  subst q3
  refine ECall.bodyOW (cxK_ok (p:=kds [3] [] [])) func134 rfl call134 (by rw [ntmps134];simp) rfl fun hf hw=>?_
  have hlp:0 < xs.length:=List.length_pos_iff.2 hxs
  have hs:=event_SortG (cf:=cmpE) cmpE_swo (k:=135) (F:=177) (fun a b=>by simpa [cmpE] using hist_sortedBy1 a b) xs.toArray (by simpa using hlp) (by simp;omega) n g false H (by simpa [vecO,rowsV] using q4)
  simp at hs
  simp [ntmps134,results134,q2]
  refine AW.ev cc ?_
  simp [q2]
  refine EC.of hs (fun v H2 hR=>?_) (fun v H2 hR=>?_)
  rotate_left
  ·obtain ⟨⟨_,e⟩,_⟩:=hR;cases e
  obtain ⟨_,d',hp',hs',rfl⟩:=hR
  have hde:d'.toList=sortE xs:=sortE_of hpw (by simpa using hp') (by simpa using hs')
  simp
  have hsz:(sortE xs).length=xs.length:=by
   have:=(Go.Sort.insertionSort_holds cmpE_swo xs.toArray 0 xs.toArray.size (Nat.zero_le _) (Nat.le_refl _)).1.1
   simpa [sortE] using this
  refine fun hz=>⟨_,hz.drop (by rw [GH.set_next];exact Nat.le_refl _),q2,⟨.inr ⟨n,g,q1,q2,by simp [hsz],?_,?_⟩,hv.nx,fun m hm=>?_⟩,rfl⟩
  ·rw [GH.set_same];simp [vecO,rowsV,hde]
  ·intro q
   have:=congrArg List.length q
   simp [hsz] at this
   exact hxs this
  ·rw [GH.set_obj,if_neg (by omega)];exact hv.ob m hm
end Go.Aft
end
section
set_option maxRecDepth 20000
namespace Go.Aft
open Go.Proofs.Tryz
open Go.Sort (swp insInner insOuter insertionSort SWO PermIn SortedIn)
def keyEv (l:List News):Value->List Event
 | .agg vs=>match vs.toList with
  | [.int _ s,.int _ i]=>oneM l s i
  | _=>[]
 | _=>[]
theorem keyEv_kk (l:List News) (s i:Int):keyEv l (kk s i)=oneM l s i:=rfl
def seenEv (l:List News) (es:List (Value × LV)) (seen:List Nat):List Event:=seen.flatMap fun i=>((es[i]?).map fun e=>keyEv l e.1).getD []
theorem seenEv_mem {l:List News} {es:List (Value × LV)} (hm:MapN es l) {seen:List Nat} {e:Event}:e ∈ seenEv l es seen ↔ ∃ i ∈ seen,∃ v,es[i]?=some (kk e.src e.id,v)/\e ∈ oneM l e.src e.id:=by
 unfold seenEv
 rw [List.mem_flatMap]
 constructor
 ·rintro ⟨i,hi,h⟩
  cases hes:es[i]? with
  | none=>rw [hes] at h;simp at h
  | some p =>
   obtain ⟨k,v⟩:=p
   rw [hes] at h
   simp only [Option.map_some,Option.getD_some] at h
   obtain ⟨s,id,rfl⟩:=key_kk (hm.key k v (List.mem_of_getElem? hes))
   rw [keyEv_kk] at h
   have:=oneM_mem h
   exact ⟨i,hi,v,by rw [hes,this.1,this.2],by rw [this.1,this.2];exact h⟩
 ·rintro ⟨i,hi,v,h1,h2⟩
  exact ⟨i,hi,by rw [h1];simpa [keyEv_kk] using h2⟩
theorem key_inj {es:List (Value × LV)} (hn:(es.map (·.1)).Nodup) {i j:Nat} {k:Value} {v u:LV} (h1:es[i]?=some (k,v)) (h2:es[j]?=some (k,u)):i=j:=by
 have g1:(es.map (·.1))[i]?=some k:=by simp [h1]
 have g2:(es.map (·.1))[j]?=some k:=by simp [h2]
 obtain ⟨a1,b1⟩:=List.getElem?_eq_some_iff.1 g1
 obtain ⟨a2,b2⟩:=List.getElem?_eq_some_iff.1 g2
 rw [List.Nodup,List.pairwise_iff_getElem] at hn
 rcases Nat.lt_trichotomy i j with q | q | q
 ·exact absurd (b1.trans b2.symm) (hn i j a1 a2 q)
 ·exact q
 ·exact absurd (b2.trans b1.symm) (hn j i a2 a1 q)
theorem seenEv_pw {l:List News} {es:List (Value × LV)} (hm:MapN es l):∀ {seen:List Nat},seen.Nodup->(seenEv l es seen).Pairwise (fun a b=>¬ (a.src=b.src/\a.id=b.id))
 | [],_=>by simp [seenEv]
 | i :: seen,h=>by
  rw [List.nodup_cons] at h
  have ih:=seenEv_pw hm h.2
  have e:seenEv l es (i :: seen)=seenEv l es [i] ++ seenEv l es seen:=by simp [seenEv]
  rw [e,List.pairwise_append]
  refine ⟨?_,ih,fun a ha b hb=>?_⟩
  ·have hl:(seenEv l es [i]).length<=1:=by
    simp only [seenEv,List.flatMap_cons,List.flatMap_nil,List.append_nil]
    cases hes:es[i]? with
    | none=>simp
    | some p =>
     obtain ⟨k,v⟩:=p
     obtain ⟨s,id,rfl⟩:=key_kk (hm.key k v (List.mem_of_getElem? hes))
     simp only [Option.map_some,Option.getD_some,keyEv_kk]
     exact oneM_len' _ _ _
   match hq:seenEv l es [i],hl with
   | [],_=>simp
   | [x],_=>simp
  ·obtain ⟨i1,j1,v1,k1,_⟩:=(seenEv_mem hm).1 ha
   obtain ⟨i2,j2,v2,k2,_⟩:=(seenEv_mem hm).1 hb
   rintro ⟨q1,q2⟩
   rw [q1,q2] at k1
   have:=key_inj hm.nd k1 k2
   simp at j1
   subst j1;subst this
   exact h.1 j2
theorem nodup_sub_len {α:Type} [DecidableEq α]:∀ {a b:List α},a.Nodup->(∀ x ∈ a,x ∈ b)->a.length<=b.length
 | [],b,_,_=>by simp
 | x :: a,b,h,hs=>by
  rw [List.nodup_cons] at h
  have hx:=hs x (List.mem_cons_self ..)
  have:=nodup_sub_len (a:=a) (b:=b.erase x) h.2 fun y hy=>(List.mem_erase_of_ne (fun e:y=x=>h.1 (by rw [<- e];exact hy))).2 (hs y (List.mem_cons_of_mem _ hy))
  rw [List.length_erase_of_mem hx] at this
  have hpos:0 < b.length:=List.length_pos_of_mem hx
  simp only [List.length_cons];omega
theorem seenEv_len {l:List News} {es:List (Value × LV)} (hm:MapN es l) {seen:List Nat} (h:seen.Nodup):(seenEv l es seen).length<=(standsM l).length:=by
 refine nodup_sub_len ((seenEv_pw hm h).imp fun {a b} q e=>q (by rw [e];exact ⟨rfl,rfl⟩)) fun x hx=>?_
 obtain ⟨i,_,v,_,h2⟩:=(seenEv_mem hm).1 hx
 exact (standsM_mem l x).2 h2
theorem mfind_mem {k:Value}:∀ {es:List (Value × LV)} {v:LV},mfind k es=some v->∃ e ∈ es,kEq k e.1=true
 | [],v,h=>by simp [mfind] at h
 | e :: es,v,h=>by
  rw [mfind] at h
  split at h
  ·rename_i q;exact ⟨e,List.mem_cons_self ..,q⟩
  ·obtain ⟨x,h1,h2⟩:=mfind_mem h;exact ⟨x,List.mem_cons_of_mem _ h1,h2⟩
theorem seenEv_all {l:List News} {es:List (Value × LV)} (hm:MapN es l) {seen:List Nat} (h:∀ i,i < es.length->i ∈ seen) (e:Event):e ∈ seenEv l es seen ↔ e ∈ oneM l e.src e.id:=by
 rw [seenEv_mem hm]
 constructor
 ·rintro ⟨_,_,_,_,h⟩;exact h
 ·intro he
  have hl:∃ n,lastM l e.src e.id=some n:=by
   unfold oneM at he
   split at he
   ·rename_i n hn;exact ⟨n,hn⟩
   ·simp at he
  obtain ⟨n,hn⟩:=hl
  have hg:=hm.get e.src e.id
  rw [hn] at hg
  obtain ⟨p,hp,hk⟩:=mfind_mem hg
  obtain ⟨s,id,q⟩:=key_kk (hm.key p.1 p.2 hp)
  rw [q,kEq_kk] at hk
  simp only [decide_eq_true_eq] at hk
  obtain ⟨i,hi,hpi⟩:=List.mem_iff_getElem.1 hp
  refine ⟨i,h i hi,p.2,?_,he⟩
  rw [List.getElem?_eq_getElem hi,hpi,hk.1,hk.2,<- q]
theorem sortE_all {l:List News} {es:List (Value × LV)} (hm:MapN es l) {seen:List Nat} (h1:seen.Nodup) (h:∀ i,i < es.length->i ∈ seen):sortE (seenEv l es seen)=standsM l :=
 standsM_eq (sortE_sorted (seenEv_pw hm h1)) fun e=>((sortE_perm _).mem_iff).trans (seenEv_all hm h e)
theorem hist_Stands (l:List News) (srcs:Int) (h12:(standsM l).length<=1000000):AFun prog 81 [sl (l.map rNews),lvI srcs] (if formedB l srcs=true then .tup [sl ((standsM l).map rEvent),lvI 0] else .tup [sl [],lvI 2]):=by
 intro H
 have cc:=cxS_ok (p:=kds [] [] [28])
 refine ECall.bodyNW (cxS_ok (p:=kds [] [] [28])) func81 rfl call81 (by rw [ntmps81];simp) rfl fun hf hw=>?_
 have hfm:=hist_formed l srcs
 simp at hfm
 simp [ntmps81,results81] at hf |-
 refine AW.seq cc ?_
 simp
 refine AW.seq cc ?_
 simp
 refine EC.afun hfm ?_
 cases hp:formedB l srcs with
 | false =>
  simp
  exact fun hz=>hz.drop (Nat.le_refl _)
 | true =>
  obtain ⟨hsrc,hlen⟩:=formed_src hp
  simp
  refine AW.seq cc ?_
  simp
  have hall:=hist_all l hsrc H
  simp at hall
  refine EC.of hall (fun v H1 hR=>?_) (fun v H1 hR=>?_)
  rotate_left
  ·cases hR.1
  obtain ⟨e,es,hm,hH1⟩:=hR
  cases e
  have b1:H1.next=H.next+2:=by rw [hH1];rfl
  have b2:H1.obj (H.next+1)=some (heardO H.next l):=by rw [hH1];simp [GH.add_obj,GH.add_next]
  have b3:H1.obj H.next=some (.map es):=by rw [hH1];simp [GH.add_obj,GH.add_next]
  have b4:∀ k,k < H.next->H1.obj k=H.obj k:=fun k hk=>by rw [hH1,GH.add_obj,GH.add_next,if_neg (by omega),GH.add_obj,if_neg (by omega)]
  clear hH1
  simp
  refine AW.seq cc ?_
  simp
  refine AW.seq cc ?_
  simp [b2,b3,heardO]
  refine AW.loopS cc (fun a:List Nat × LV × GH=>⟨[(6,.gp (H.next+1) 0),(7,a.2.1),(19,.gp (H.next+2) 0)],[],a.2.2⟩) (fun a=>unm es.length (fun i=>decide (i ∈ a.1)))
   (fun a=>a.1.Nodup/\(∀ i ∈ a.1,i < es.length)/\VApp 63 5 (H1.add (.iter H.next es.length a.1 es.length)) a.2.1 ((seenEv l es a.1).map rEvent) a.2.2)
   ([],.d (.k (.slice none 0 0)),H1.add (.iter H.next es.length [] es.length)) ⟨⟨by simp,by simp,by simpa [seenEv] using VApp.nil⟩,by simp [b1]⟩ ?_
  rintro ⟨seen,x,H2⟩ ⟨s1,s2,hv⟩
  simp only at s1 s2 hv
  have oi:H2.obj (H.next+2)=some (.iter H.next es.length seen es.length):=by rw [hv.ob _ (by rw [GH.add_next];omega),GH.add_obj,if_pos b1.symm]
  have om:H2.obj H.next=some (.map es):=by rw [hv.ob _ (by rw [GH.add_next];omega),GH.add_obj,if_neg (by omega)];exact b3
  have oh:H2.obj (H.next+1)=some (heardO H.next l):=by rw [hv.ob _ (by rw [GH.add_next];omega),GH.add_obj,if_neg (by omega)];exact b2
  have hkeys:es.all (fun e=>keyOk e.1)=true:=List.all_eq_true.2 fun e he=>by
   obtain ⟨s,i,q⟩:=key_kk (hm.key e.1 e.2 he)
   rw [q];rfl
  simp
  refine ST.next (n:=H.next+2) (m:=H.next) (seen:=seen) (es:=es) (by simp) oi om (by simp) rfl rfl hkeys (fun i e he hi=>?_) (fun hend=>?_)
  ·obtain ⟨s,id,hk⟩:=key_kk (hm.key e.1 e.2 (List.mem_of_getElem? he))
   have hi':=(List.getElem?_eq_some_iff.1 he).1
   simp
   refine ST.entry (n:=H.next+2) (m:=H.next) (seen:=seen ++ [i]) (es:=es) (i:=i) (e:=e) (by simp) (by rw [GH.set_same]) (by rw [GH.set_obj,if_neg (by omega)];exact om) (by simp) rfl hkeys (by simp) he ?_
   rw [hk]
   obtain ⟨H3,hH3⟩:∃ H3,H2.set (H.next+2) (GO.iter H.next es.length (seen ++ [i]) es.length)=H3:=⟨_,rfl⟩
   have hv3:=hv.set (k:=H.next+2) (by rw [GH.add_next];omega) (.iter H.next es.length (seen ++ [i]) es.length)
   have hset:∀ a b:GO,(H1.add a).set (H.next+2) b=H1.add b:=fun a b=>by rw [<- b1];exact GH.add_set
   rw [hH3,hset] at hv3
   have n3:H3.next=H2.next:=by rw [<- hH3];rfl
   have n2:=hv.nx
   rw [GH.add_next] at n2
   have om3:H3.obj H.next=some (.map es):=by rw [<- hH3,GH.set_obj,if_neg (by omega)];exact om
   have oh3:H3.obj (H.next+1)=some (heardO H.next l):=by rw [<- hH3,GH.set_obj,if_neg (by omega)];exact oh
   have hst:=hist_stands l s id H.next (H.next+1) es H3 hm oh3 om3
   simp at hst
   simp [keyLV,kk,hH3]
   refine ⟨hv.plain.unP,by omega,EC.of hst (fun v H4 hR=>?_) (fun v H4 hR=>?_)⟩
   rotate_left
   ·cases hR.1
   obtain ⟨e1,rfl⟩:=hR
   cases e1
   simp [hv.plain.all]
   have hse:seenEv l es (seen ++ [i])=seenEv l es seen ++ oneM l s id:=by
    simp only [seenEv,List.flatMap_append,List.flatMap_cons,List.flatMap_nil,List.append_nil,he,Option.map_some,Option.getD_some,hk,keyEv_kk]
   have hsn:(seen ++ [i]).Nodup:=by
    rw [List.nodup_append]
    exact ⟨s1,by simp,fun a ha b hb=>by simp at hb;subst hb;intro q;subst q;exact hi ha⟩
   have hle:=seenEv_len hm hsn
   rw [hse,List.length_append] at hle
   refine APK.appV (ys:=(oneM l s id).map rEvent) tyE59 rfl tyE63 (by simp) (x:=x) (by simp) hv3 (by simp [srcOf,rowsOf]) (by simp) (rEvent_all _) (rEvent_all _) (by simp;omega) (by simp) fun x' H5 h5 _ _=>?_
   simp [h5.plain.all]
   refine NX.go (seen ++ [i],x',H5) ?_ ⟨hsn,fun j hj=>?_,?_⟩ (by simp [h5.only])
   ·have:=unm_mark (n:=es.length) (M:=fun j=>decide (j ∈ seen)) hi' (by simpa using hi)
    have e2:markK (fun j=>decide (j ∈ seen)) i=fun j=>decide (j ∈ seen ++ [i]):=by
     funext j;simp only [markK];by_cases q:j=i <;> simp [q]
    rw [e2] at this;exact this
   ·rcases List.mem_append.1 hj with q | q
    ·exact s2 j q
    ·simp at q;subst q;exact hi'
   ·rw [hse,List.map_append];exact h5
  ·simp
   have hle:=seenEv_len hm s1
   have hsb:=hist_sortedBy (seenEv l es seen) (by omega) (seenEv_pw hm s1) x (H1.add (.iter H.next es.length seen es.length)) H2 hv
   refine AW.seq cc ?_
   simp [hv.plain.all]
   refine ⟨hv.nb,EC.of hsb (fun v H3 hR=>?_) (fun v H3 hR=>?_)⟩
   rotate_left
   ·cases hR.1
   obtain ⟨e1,hv3,n3⟩:=hR
   cases e1
   rw [sortE_all hm s1 hend] at hv3
   have n2:=hv3.nx
   rw [GH.add_next] at n2
   have o3:∀ m,m < H.next->H3.obj m=H.obj m:=fun m hm=>by rw [hv3.ob m (by rw [GH.add_next];omega),GH.add_obj,if_neg (by omega)];exact b4 m hm
   simp [hv3.plain.all]
   rcases hv3.is with ⟨q1,rfl⟩ | ⟨n,g,q1,q2,rfl,q4,q5⟩
   ·refine AW.ev cc ?_
    simp
    exact fun _=>⟨Drop_same (by omega) o3 hw.none,by simpa using q1⟩
   ·rw [GH.add_next] at q1
    refine AW.thaw (n:=n) (g:=g) (sz:=5) (e:=63) (ex:=false) ((standsM l).map rEvent) q4 rfl (rEvent_all _) ?_
    refine AW.ev cc ?_
    simp
    exact fun _=>⟨Drop_same (by simp only;omega) (fun m hm=>thaw_lt hw (by omega) o3 hm) hw.none,List.take_of_length_le (by simp)⟩
end Go.Aft
end
section
set_option maxRecDepth 20000
namespace Go.Aft
open Go.Proofs.Tryz
open Go.Sort (swp insInner insOuter insertionSort SWO PermIn SortedIn)
theorem AW.weak {P:Program} {rd:RD} {x:Code} {s:S} {Q:QT} {n:Nat} {cs:List LV} (cs':List LV) (hn:s.H.obj n=some (.box cs)) (hc:∀ G nx vs,LRs G nx noL cs vs->LRs G nx noL cs' vs)
  (h:@AW P rd ⟨x⟩ { s with H:=s.H.set n (.box cs') } Q):@AW P rd ⟨x⟩ s Q:=by
 refine fun E a w hs=>h E a w ?_
 obtain ⟨h2,G,lm,h1,hM,hx,henv,he⟩:=hs
 refine ⟨h2,G,lm,h1,⟨hM.imm,fun b o v hv=>?_,hM.fresh,hM.lmL,hM.loc,fun m o ho=>?_⟩,⟨⟨hx.le,hx.nx,hx.os,hx.tape,hx.output,hx.drawn,hx.size,hx.frame,hx.own⟩,hx.nl⟩,henv,he⟩
 ·rcases hM.immOwn b o v hv with q | ⟨m,e,sz,k,q1,q2,q3⟩
  ·exact .inl q
  ·refine .inr ⟨m,e,sz,k,q1,?_,q3⟩
   have:m ≠ n:=fun e=>by rw [e,hn] at q2;cases q2
   show (s.H.set n (.box cs')).obj m=_
   rw [GH.set_obj,if_neg this];exact q2
 ·have ho':(s.H.set n (.box cs')).obj m=some o:=ho
  rw [GH.set_obj] at ho'
  split at ho'
  ·rename_i e
   subst e
   cases ho'
   obtain ⟨q1,q2,vs,q3,q4⟩:=hM.nmd _ _ hn
   exact ⟨q1,q2,vs,q3,hc _ _ _ q4⟩
  ·exact hM.nmd m o ho'
theorem LR_nilS {G:Gh} {nx:Nat} {lm:Nat->Option Nat} {v:Value} (h:LR G nx lm nilS v):LR G nx lm (.d (.sl [])) v:=by
 simpa [LV.nz,DV.nz] using LR_nz nilS v h
theorem VApp.keep {e e':TypeId} {sz sz':Nat} {H0 H H5:GH} {y z:LV} {rows rows':List (List DV)} (hy:VApp e sz H0 y rows H) (hz:VApp e' sz' H0 z rows' H) (hne:e ≠ e') (hn:H.next<=H5.next) (ho:∀ m,m < H0.next->H5.obj m=H0.obj m)
  (hfr:∀ m,m < H.next->(∀ g i l,z ≠ .vs m g sz' i l)->H5.obj m=H.obj m):VApp e sz H0 y rows H5:=by
 refine ⟨?_,Nat.le_trans hy.nx hn,ho⟩
 rcases hy.is with q | ⟨n,g,q1,q2,q3,q4,q5⟩
 ·exact .inl q
 ·refine .inr ⟨n,g,q1,by omega,q3,?_,q5⟩
  rw [hfr n q2 fun g' i l hzz=>?_]
  ·exact q4
  ·rcases hz.is with ⟨_,r⟩ | ⟨n',g'',_,_,r3,r4,_⟩
   ·rw [r] at hzz;cases hzz
   ·rw [r3] at hzz
    cases hzz
    rw [q4] at r4
    simp only [Option.some.injEq,GO.vec.injEq] at r4
    exact hne r4.1
def verStep (src id:Int) (acc:Int) (n:News):Int:=if n.do_ ≠ 3/\n.src=src/\n.id=id then maxI acc n.ver else acc
def verM (l:List News) (src id:Int):Int:=l.foldl (verStep src id) 0
structure MapV (es:List (Value × LV)) (l:List News) (src:Int):Prop where
 get:∀ id:Int,(mfind (.int .i64 id) es).getD (lvI 0)=lvI (verM l src id)
 key:∀ (a:Value) (b:LV),(a,b) ∈ es->(KK.sc (.int .i64)).has a=true
 nb:∀ n,nbs n (es.map (·.2))
theorem MapV.nil (src:Int):MapV [] [] src:=⟨fun _=>rfl,fun _ _ h=>absurd h List.not_mem_nil,fun _=>trivial⟩
theorem key_int {a:Value} (h:(KK.sc (.int .i64)).has a=true):∃ i,a=.int .i64 i:=by
 cases a <;> simp [KK.has,Sc.has] at h
 subst h;exact ⟨_,rfl⟩
theorem mfind_putI:∀ (es:List (Value × LV)) (v:LV) (i id:Int),(∀ (a:Value) (b:LV),(a,b) ∈ es->(KK.sc (.int .i64)).has a=true)->mfind (.int .i64 id) (mput (.int .i64 i) v es)=if id=i then some v else mfind (.int .i64 id) es
 | [],v,i,id,_=>by simp [mput,mfind,kEq_int]
 | (a,b) :: es,v,i,id,h=>by
  obtain ⟨i',rfl⟩:=key_int (h a b (by simp))
  have ih:=mfind_putI es v i id fun a b hab=>h a b (List.mem_cons_of_mem _ hab)
  simp only [mput,kEq_int]
  by_cases e:i=i'
  ·subst e
   simp only [decide_true,if_true,mfind,kEq_int]
   by_cases e2:id=i <;> simp [e2]
  ·simp only [e,decide_false,Bool.false_eq_true,if_false,mfind,kEq_int,ih]
   by_cases e2:id=i'
   ·subst e2
    have:¬ id=i:=fun q=>e q.symm
    simp [this]
   ·simp [e2]
theorem mput_keyI (v:LV) (i:Int):∀ (es:List (Value × LV)),(∀ (a:Value) (b:LV),(a,b) ∈ es->(KK.sc (.int .i64)).has a=true)->∀ (a:Value) (b:LV),(a,b) ∈ mput (.int .i64 i) v es->(KK.sc (.int .i64)).has a=true
 | [],_,a,b,hab=>by
  simp only [mput,List.mem_singleton,Prod.mk.injEq] at hab
  rw [hab.1];rfl
 | (c,d) :: es,h,a,b,hab=>by
  simp only [mput] at hab
  split at hab
  ·rcases List.mem_cons.1 hab with q | q
   ·cases q;rfl
   ·exact h a b (List.mem_cons_of_mem _ q)
  ·rcases List.mem_cons.1 hab with q | q
   ·rw [show a=c from (Prod.mk.inj q).1];exact h c d (List.mem_cons_self ..)
   ·exact mput_keyI v i es (fun a b hab=>h a b (List.mem_cons_of_mem _ hab)) a b q
theorem verM_snoc (l:List News) (n:News) (src id:Int):verM (l ++ [n]) src id=verStep src id (verM l src id) n:=by simp [verM]
theorem MapV.put {es:List (Value × LV)} {l:List News} {n:News} (h:MapV es l n.src) (h3:n.do_ ≠ 3):MapV (mput (.int .i64 n.id) (lvI (maxI (verM l n.src n.id) n.ver)) es) (l ++ [n]) n.src:=by
 refine ⟨fun id=>?_,mput_keyI _ _ _ h.key,fun m=>mput_nb _ _ _ (by simp [LV.nb]) _ (h.nb m)⟩
 rw [mfind_putI _ _ _ _ h.key,verM_snoc,verStep]
 by_cases e:id=n.id
 ·subst e;rw [if_pos rfl,if_pos ⟨h3,rfl,rfl⟩];rfl
 ·rw [if_neg e,if_neg (fun q=>e q.2.2.symm)];exact h.get id
theorem MapV.keep {es:List (Value × LV)} {l:List News} {src:Int} (h:MapV es l src) {n:News} (hk:¬ (n.do_ ≠ 3/\n.src=src)):MapV es (l ++ [n]) src:=by
 refine ⟨fun id=>?_,h.key,h.nb⟩
 rw [h.get,verM_snoc,verStep,if_neg (fun q=>hk ⟨q.1,q.2.1⟩)]
theorem loose_insertion0 (F:FuncId) (cap:List LV) (hcap:∀ n,nbs n cap):AFun prog 202 [nilS,lvI 0,lvI 0,.fn (.func F) [] cap] (.tup []):=by
 have cc:=cxK_ok (p:=kds [] [] [])
 refine AFun.body (cxK_ok (p:=kds [] [] [])) func202 rfl call202 (by rw [ntmps202];simp) rfl fun hf H=>?_
 have w1:IntKind.wrap .i64 1=1:=rfl
 simp [ntmps202,results202,w1]
 refine AW.loopS cc (fun _:Unit=>⟨[(0,nilS),(1,lvI 0),(2,lvI 0),(3,.fn (.func F) [] cap),(8,lvI 1)],[],H⟩) (fun _=>0) (fun _=>True) () ⟨trivial,by simp [nbs_only _ (hcap 0)]⟩ ?_
 rintro _ _
 simp
theorem loose_SortStable0 (F:FuncId) (cap:List LV) (hcap:∀ n,nbs n cap):AFun prog 100 [nilS,.fn (.func F) [] cap] (.tup []):=by
 have cc:=cxK_ok (p:=kds [] [] [])
 have h148:AFun prog 148 [nilS,lvI 0,.fn (.func F) [] cap] (.tup []):=by
  refine AFun.body (cxK_ok (p:=kds [] [] [])) func148 rfl call148 (by rw [ntmps148];simp) rfl fun hf H=>?_
  have hi:=loose_insertion0 F cap hcap
  simp [ntmps148,results148] at hi |-
  refine AW.loopS cc (fun _:Unit=>⟨[(0,nilS),(1,lvI 0),(2,.fn (.func F) [] cap),(6,lvI 20),(7,lvI 0),(8,lvI 20)],[],H⟩) (fun _=>0) (fun _=>True) () ⟨trivial,by simp [nbs_only _ (hcap 0)]⟩ ?_
  rintro _ _
  simp [hcap]
  refine EC.afun hi ?_
  simp
  refine AW.loopS cc (fun _:Unit=>⟨[(0,nilS),(1,lvI 0),(2,.fn (.func F) [] cap),(6,lvI 20)],[],H⟩) (fun _=>0) (fun _=>True) () ⟨trivial,by simp [nbs_only _ (hcap 0)]⟩ ?_
  rintro _ _
  simp
 refine AFun.body (cxK_ok (p:=kds [] [] [])) func100 rfl call100 (by rw [ntmps100];simp) rfl fun hf H=>?_
 simp [ntmps100,results100] at h148 |-
 simp [hcap]
 refine EC.afun h148 ?_
 simp
end Go.Aft
end
