import Derived.Test.YthinedikejlgmaaGreatA18
import Derived.Test.YthinedikejlgmaaGreatA23
import Derived.Shelf.SlSortCmp.WholeK
import Derived.Shelf.SlGeneric
import Derived.Test.YthinedikejlgmaaGreatProg
import Derived.Test.YthinedikejlgmaaGreatA17
import Derived.Test.YthinedikejlgmaaGreatA22
set_option linter.all false
section
set_option maxRecDepth 20000
namespace Go.Proofs
open Go.Shelf
end Go.Proofs
namespace Go.Aft
open Go.RowKit Go.Sort
open Go.Shelf
open Go.Proofs (CmpLays)
theorem SP{w w':World}(hb:Below w.heap.size w w')(hd:w.drawn<=w'.drawn):∃q os',w'=grow (w.drewN q) os':=by
 obtain⟨e1,e2,e3,e4,e5⟩:=hb;refine⟨w'.drawn-w.drawn,w'.heap.extract w.heap.size w'.heap.size,?_⟩;obtain⟨hp,tp,dr,o,out⟩:=w';obtain⟨hp0,tp0,dr0,o0,out0⟩:=w;simp only at e1 e2 e3 e4 e5 hd;subst e1 e2 e3;simp only[grow,World.drewN]
 congr 1
 ·refine Array.ext_getElem? λi=>?_
  by_cases h:i<hp0.size
  ·rw[Array.getElem?_append_left h];exact e5 i h
  ·rw[Array.getElem?_append_right (by omega),Array.getElem?_extract]
   by_cases h2:i<hp.size
   ·rw[if_pos (by omega)];congr 1;omega
   ·rw[if_neg (by omega),Array.getElem?_eq_none (by omega)]
 ·omega
theorem aC.TB{P:Program}{f:FuncId}{args:List LV}{v:LV}(h:aC P f args v)(w:World)(vs:List Value)(ha:bH (Ch w) 0 ix args vs):
  Calls P f vs.toArray w λe w'=>(∃G x,e=.returned x/\LR G 0 ix v x)/\∃q os',w'=grow (w.drewN q) os':=by
 refine Calls.mono ((h H0).2 (Ch w) w vs (Oh w) (λb k q=>by cases q) ha) ?_
 rintro e w' ⟨ce,H',G',⟨rfl,rfl⟩,hE,hM,hN,hx⟩;obtain⟨x,rfl,hr⟩:=hE;exact⟨⟨G',x,rfl,hr⟩,SP ⟨hx.os,hx.tape,hx.output,hx.size,λk hk=>hx.frame k hk (.inl rfl)⟩ hx.drawn⟩
theorem Ep(w:World)(q:Nat)(os:Array Obj):∀x,x<w.heap.size->(grow (w.drewN q) os).heap[x]?=w.heap[x]?:=λx hx=>by
 simp only[grow,World.drewN];rw[Array.getElem?_append_left hx]
theorem Eo(w:World)(q:Nat)(os:Array Obj):w.heap.size<=(grow (w.drewN q) os).heap.size:=by
 simp only[grow,World.drewN,Array.size_append];omega
section
variable {E:tL} {G:Gh} {lm:Nat->Option Nat} {L:Nat->Option (List LV)} {H:GH} {w:World}
theorem MR.grown(h:MR G lm L H w)(q:Nat)(os:Array Obj):MR G lm L H (grow (w.drewN q) os):=by
 have hold:=Ep w q os;refine⟨λb o v hv=>?_,h.dF,λb hb=>h.fresh b (Nat.le_trans (Eo w q os) hb),h.C3,?_,λn o ho=>?_⟩
 ·have hc:=h.qC b o v hv;rw[eZ (hold b (iA hc))];exact hc
 ·exact h.jD (Nat.le_refl _) (Gh.le_refl _ _) λb k hb=>⟨hb,hold b (jB h (b:=b) (by rw[hb];simp))⟩
 ·obtain⟨h1,h2⟩:=h.iC n o ho;exact⟨h1,fM (Nat.le_refl _) h1 (Gh.le_refl _ _) h2 ⟨rfl,rfl⟩ λb hb=>⟨hb,hold b (jB h (b:=b) (by rw[hb];simp)),λ_ _ q=>q⟩⟩
theorem Ext.grown(h:Ext E G H w)(q:Nat)(os:Array Obj):Ext E G H (grow (w.drewN q) os):=
 Ext.trans h ⟨Gh.le_refl _ _,Nat.le_refl _,rfl,rfl,rfl,by simp only[grow,World.drewN];omega,Eo w q os,λb hb _=>Ep w q os b hb,λb _=>.inl rfl⟩
end
theorem W3{G:Gh}{nx k:Nat}{w:World}{cb:List Value}(h:bH G nx ix [.ip [.fn (.func k) [] []] 0] cb)(hm:∀b o v,G.M b o=some v->w.cell? ⟨b,o,none⟩=some v):bH (Ch w) 0 ix [.ip [.fn (.func k) [] []] 0] cb:=by
 unfold bH at h|-;obtain⟨v,r,rfl,h1,h2⟩:=h;refine⟨v,r,rfl,?_,by unfold bH at h2|-;exact h2⟩
 unfold LR at h1|-;obtain⟨b,hb,h1⟩:=h1;refine⟨b,hb,?_⟩;unfold IR at h1|-;obtain⟨⟨v',q1,q2,q3⟩,h1⟩:=h1;refine⟨⟨v',hm _ _ _ q1,q2,?_⟩,by unfold IR;trivial⟩
 unfold LR at q3|-;obtain⟨fs,cs,e,r1,r2⟩:=q3;exact⟨fs,cs,e,by unfold bH at r1|-;exact r1,by unfold bH at r2|-;exact r2⟩
def De(e:Event):List Value:=[.int .i64 e.src,.int .i64 e.id,.int .i64 e.aa.at_,.int .i64 e.aa.key,.int .i64 e.aa.val]
theorem Oo{M:Mem}(e:Event):RL M (aQ e) (De e):=by
 simp[aQ,bE,De,RL,DR,Value.oneCell']
theorem yS{w:World}{blk off m:Nat}{dk:Array Event}{os:Array Obj}{b o:Nat}{v:Value}(hb:b≠blk)(h:w.cell? ⟨b,o,none⟩=some v):(Go.Proofs.sortWorldK De 5 w blk off m dk os).cell? ⟨b,o,none⟩=some v:=by
 unfold Go.Proofs.sortWorldK putRowK;have h1:(putRow id (Go.Sort.ahead w m) blk off (flatK De 5 dk)).cell? ⟨b,o,none⟩=some v:=by
  rw[cell?_putRow_other id _ _ _ _ _ (.inl hb)];exact h
 generalize putRow id (Go.Sort.ahead w m) blk off (flatK De 5 dk)=w1 at h1|-;have hlt:=iA h1;rw[eZ (show(grow w1 os).heap[b]?=w1.heap[b]? by simp only[grow];rw[Array.getElem?_append_left hlt])]
 exact h1
open Go.Proofs.Tryz in
theorem aG9{cf:Event->Event->Int}{k:Nat}{F:FuncId}(KX:∀x y,aC prog F ([lv (aQ x),lv (aQ y)]++[.ip [.fn (.func k) [] []] 0]) (aH (cf x y))){G:Gh}{nx blk off size:Nat}{w:World}{cb:List Value}
  (hcb:bH G nx ix [.ip [.fn (.func k) [] []] 0] cb) (hm:∀b o v,G.M b o=some v->b≠blk/\w.cell? ⟨b,o,none⟩=some v):CmpLays prog F cb.toArray De 5 cf blk off size w:=by
 intro m os dk hs x y;have bo5:=W3 (w:=Go.Proofs.sortWorldK De 5 w blk off m dk os) hcb λb o v hv=>yS (hm b o v hv).1 (hm b o v hv).2
 have:=(KX x y).TB (Go.Proofs.sortWorldK De 5 w blk off m dk os) ([.agg (De x).toArray,.agg (De y).toArray]++cb) (by
  simp only[List.cons_append,List.nil_append];unfold bH;refine⟨_,_,rfl,by unfold LR;exact⟨_,rfl,sK (Oo x)⟩,?_⟩
  unfold bH;refine⟨_,_,rfl,by unfold LR;exact⟨_,rfl,sK (Oo y)⟩,bo5⟩)
 refine Calls.mono (by simpa using this) ?_
 rintro e w' ⟨⟨G',z,rfl,hr⟩,hg⟩;have hr:LR G' 0 ix (.d (.k (.int .i64 (cf x y)))) z:=hr;unfold LR DR at hr;exact⟨by rw[hr.1],hg⟩
theorem Ig{w:World}{b off:Nat}{F:Array Value}{c:Array Value}{e:TypeId}{fr:Nat×Nat}(h:w.heap[b]?=some (.cells c e fr)):putRow id w b off F=eU w b (.cells (putCells id off F c) e fr):=by
 unfold putRow mapBlock eU
 congr 1
 refine Array.ext_getElem? λi=>?_
 rw[Array.getElem?_modify,Array.getElem?_setIfInBounds];by_cases q:b=i
 ·subst q;have hb:=(Array.getElem?_eq_some_iff.1 h).2;simp[h,onCells,eN h,hb]
 ·simp[q]
end Go.Aft
end
section
set_option maxRecDepth 20000
namespace Go.Proofs
open Go.Shelf
def Tryz.Bo:Go.Shelf.Ren:=⟨fun|14=>223|20=>256|21=>257|22=>258|23=>259|24=>260|25=>261|26=>262|27=>263|46=>276|47=>268|48=>269|49=>277|50=>278|15=>215|57=>282|28=>247|29=>248|n=>n,fun|24=>86|22=>29|3=>3|25=>238|4=>4|0=>0|46=>275|45=>274|50=>204|66=>302|39=>252|55=>80|70=>306|76=>313|77=>314|53=>282|5=>5|9=>9|n=>n,fun|n=>n⟩
theorem Tryz.Sd:Go.Proofs.SlLaysF0.n14 Tryz.prog Tryz.Bo:={
 mixed:=by kernel_rfl
 f14:=⟨Tryz.f223.name,by decide,Tryz.func223.trans (congrArg some (by kernel_rfl))⟩
 f15:=Tryz.func215.trans (congrArg some (by kernel_rfl))
 f20:=⟨Tryz.f256.name,by decide,Tryz.func256.trans (congrArg some (by kernel_rfl))⟩
 f21:=⟨Tryz.f257.name,by decide,Tryz.func257.trans (congrArg some (by kernel_rfl))⟩
 f22:=⟨Tryz.f258.name,by decide,Tryz.func258.trans (congrArg some (by kernel_rfl))⟩
 f23:=⟨Tryz.f259.name,by decide,Tryz.func259.trans (congrArg some (by kernel_rfl))⟩
 f24:=⟨Tryz.f260.name,by decide,Tryz.func260.trans (congrArg some (by kernel_rfl))⟩
 f25:=⟨Tryz.f261.name,by decide,Tryz.func261.trans (congrArg some (by kernel_rfl))⟩
 f26:=⟨Tryz.f262.name,by decide,Tryz.func262.trans (congrArg some (by kernel_rfl))⟩
 f27:=⟨Tryz.f263.name,by decide,Tryz.func263.trans (congrArg some (by kernel_rfl))⟩
 f28:=Tryz.func247.trans (congrArg some (by kernel_rfl))
 f29:=Tryz.func248.trans (congrArg some (by kernel_rfl))
 f46:=⟨Tryz.f276.name,by decide,Tryz.func276.trans (congrArg some (by kernel_rfl))⟩
 f47:=Tryz.func268.trans (congrArg some (by kernel_rfl))
 f48:=Tryz.func269.trans (congrArg some (by kernel_rfl))
 f49:=⟨Tryz.f277.name,by decide,Tryz.func277.trans (congrArg some (by kernel_rfl))⟩
 f50:=⟨Tryz.f278.name,by decide,Tryz.func278.trans (congrArg some (by kernel_rfl))⟩
 f57:=⟨Tryz.f282.name,by decide,Tryz.func282.trans (congrArg some (by kernel_rfl))⟩
 t0:=Tryz.underlying0
 a0:=Tryz.isAgg0
 z0:=Tryz.sizeOf0
 v0:=Tryz.zeroValue0
 t3:=Tryz.underlying3
 a3:=Tryz.isAgg3
 z3:=Tryz.sizeOf3
 v3:=Tryz.zeroValue3
 t4:=Tryz.underlying4
 a4:=Tryz.isAgg4
 z4:=Tryz.sizeOf4
 v4:=Tryz.zeroValue4
 t5:=Tryz.underlying5
 a5:=Tryz.isAgg5
 z5:=Tryz.sizeOf5
 v5:=Tryz.zeroValue5
 t9:=Tryz.underlying9
 a9:=Tryz.isAgg9
 z9:=Tryz.sizeOf9
 v9:=Tryz.zeroValue9
 t22:=Tryz.underlying29
 a22:=Tryz.isAgg29
 z22:=Tryz.sizeOf29
 v22:=Tryz.zeroValue29
 t25:=Tryz.underlying238
 a25:=Tryz.isAgg238
 z25:=Tryz.sizeOf238
 v25:=Tryz.zeroValue238
 t39:=Tryz.underlying252
 a39:=Tryz.isAgg252
 z39:=Tryz.sizeOf252
 v39:=Tryz.zeroValue252
 t45:=Tryz.underlying274
 a45:=Tryz.isAgg274
 z45:=Tryz.sizeOf274
 v45:=Tryz.zeroValue274
 t46:=Tryz.underlying275
 a46:=Tryz.isAgg275
 z46:=Tryz.sizeOf275
 v46:=Tryz.zeroValue275
 t50:=Tryz.underlying204
 a50:=Tryz.isAgg204
 z50:=Tryz.sizeOf204
 v50:=Tryz.zeroValue204
 t53:=Tryz.underlying282
 a53:=Tryz.isAgg282
 z53:=Tryz.sizeOf282
 v53:=Tryz.zeroValue282
 t55:=Tryz.underlying80
 a55:=Tryz.isAgg80
 z55:=Tryz.sizeOf80
 v55:=Tryz.zeroValue80
 t66:=Tryz.underlying302
 a66:=Tryz.isAgg302
 z66:=Tryz.sizeOf302
 v66:=Tryz.zeroValue302
 t70:=Tryz.underlying306
 a70:=Tryz.isAgg306
 z70:=Tryz.sizeOf306
 v70:=Tryz.zeroValue306
 t76:=Tryz.underlying313
 a76:=Tryz.isAgg313
 z76:=Tryz.sizeOf313
 v76:=Tryz.zeroValue313
 t77:=Tryz.underlying314
 a77:=Tryz.isAgg314
 z77:=Tryz.sizeOf314
 v77:=Tryz.zeroValue314}
end Go.Proofs
namespace Go.Aft
open Go.RowKit Go.Sort
open Go.Shelf
open Go.Proofs (CmpLays)
section
variable {α:Type} [Inhabited α] {enc:α->List Value} {sz:Nat} {r:α->List DV}
def JO(enc:α->List Value)(l:List α):List Value:=(l.map enc).flatten
theorem zA(hl:∀x,(enc x).length=sz):∀l:List α,(JO enc l).length=l.length*sz
 |[]=>by simp[JO]
 |e::l=>by
  have:=zA hl l;simp only[JO,List.map_cons,List.flatten_cons,List.length_append,List.length_cons,hl]at this|-;rw[this,Nat.add_mul];omega
theorem Gk(hl:∀x,(enc x).length=sz)(h0:0<sz):∀(l:List α) (j:Nat),j<l.length*sz->(JO enc l)[j]?=some ((enc (l[j / sz]?.getD default))[j%sz]!)
 |[],j,h=>by simp at h
 |e::l,j,h=>by
  simp only[JO,List.map_cons,List.flatten_cons];by_cases h5:j<sz
  ·rw[List.getElem?_append_left (by rw[hl];exact h5),Nat.div_eq_of_lt h5,Nat.mod_eq_of_lt h5]
   simp only[List.getElem?_cons_zero,Option.getD_some];rw[List.getElem?_eq_getElem (by rw[hl];exact h5),getElem!_pos _ _ (by rw[hl];exact h5)]
  ·rw[List.getElem?_append_right (by rw[hl];omega),hl]
   have:=Gk hl h0 l (j-sz) (by simp only[List.length_cons,Nat.add_mul]at h;omega)
   rw[JO]at this;rw[this,Nat.div_eq_sub_div h0 (by omega:sz<=j),Nat.mod_eq_sub_mod (by omega:sz<=j)]
   simp
theorem BO(hl:∀x,(enc x).length=sz)(d:Array α)(j:Nat)(h:j<d.size*sz):(flatK enc sz d)[j]! =(enc (d.toList[j / sz]?.getD default))[j%sz]! :=by
 have h0:0<sz:=by
  rcases Nat.eq_zero_or_pos sz with q|q
  ·subst q;simp at h
  ·exact q
 rw[get_flatK enc sz d j h];have hj:j / sz<d.size:=Nat.div_lt_of_lt_mul (by rw[Nat.mul_comm];exact h)
 have:d[j / sz]! =d.toList[j / sz]?.getD default:=by
  rw[getElem!_pos d (j / sz) hj];simp[hj]
 rw[this]
theorem LF(hl:∀x,(enc x).length=sz)(d:Array α)(vs0 rest:List Value)(hv:vs0.length=d.size*sz):putCells id 0 (flatK enc sz d) (vs0++rest).toArray=(JO enc d.toList++rest).toArray:=by
 have hf:=zA hl d.toList;simp only[Array.length_toList]at hf;refine Array.ext_getElem? λi=>?_
 simp only[putCells,Array.getElem?_mapIdx,List.getElem?_toArray,size_flatK,Nat.zero_add,Nat.zero_le,true_and,Nat.sub_zero,id];by_cases h:i<d.size*sz
 ·have h0:0<sz:=by
   rcases Nat.eq_zero_or_pos sz with q|q
   ·subst q;simp at h
   ·exact q
  rw[List.getElem?_append_left (by omega),List.getElem?_append_left (by omega),Gk hl h0 _ _ (by simpa using h),List.getElem?_eq_getElem (by omega)]
  simp only[Option.map_some,if_pos h];rw[BO hl d i h]
 ·rw[List.getElem?_append_right (by omega),List.getElem?_append_right (by omega),hv,hf]
  cases rest[i-d.size*sz]? <;>simp[h]
theorem N2{G:Gh}{nx:Nat}{lm:Nat->Option Nat}(hr:∀M x,RL M (r x) (enc x)):∀(l:List α),bH G nx lm (bM (l.map r)) (JO enc l)
 |[]=>by simp[bM,bH,JO]
 |e::l=>by
  have:=N2 (G:=G) (nx:=nx) (lm:=lm) hr l;simp only[bM,JO,List.map_cons,List.flatten_cons,List.map_append]at this|-;exact eF (sK (hr _ e)) this
end
def encI(x:Item):List Value:=[.int .i64 x.aa.at_,.int .i64 x.aa.key,.int .i64 x.aa.val,.int .i64 x.n]
theorem GB{M:Mem}(e:Item):RL M (ak e) (encI e):=by
 simp[ak,encI,RL,DR,Value.oneCell']
theorem S2{G:Gh}{nx:Nat}{lm:Nat->Option Nat}:∀(l:List Item) (vs:List Value),bH G nx lm (bM (l.map ak)) vs->vs=JO encI l
 |[],vs,h=>by simpa[bM,bH,JO]using h
 |e::l,vs,h=>by
  simp only[bM,List.map_cons,List.flatten_cons,List.map_append]at h;simp only[ak,List.map_cons,List.map_nil,List.cons_append,List.nil_append]at h
  iterate 4
   unfold bH at h;obtain⟨_,_,rfl,hx,h⟩:=h;unfold LR DR at hx;obtain⟨rfl,_⟩:=hx
  have:=S2 l _ h;rw[this];rfl
open Go.Proofs.Tryz in
theorem Tv{cf:Item->Item->Int}{F:FuncId}(KX:∀x y,aC prog F [lv (ak x),lv (ak y)] (aH (cf x y))){blk off size:Nat}{w:World}:CmpLays prog F #[] encI 4 cf blk off size w:=by
 intro m os dk hs x y;have:=(KX x y).TB (Go.Proofs.sortWorldK encI 4 w blk off m dk os) [.agg (encI x).toArray,.agg (encI y).toArray] (by
  unfold bH;refine⟨_,_,rfl,by unfold LR;exact⟨_,rfl,sK (GB x)⟩,?_⟩
  unfold bH;refine⟨_,_,rfl,by unfold LR;exact⟨_,rfl,sK (GB y)⟩,by unfold bH;rfl⟩)
 refine Calls.mono (by simpa using this) ?_
 rintro e w' ⟨⟨G',z,rfl,hr⟩,hg⟩;have hr:LR G' 0 ix (.d (.k (.int .i64 (cf x y)))) z:=hr;unfold LR DR at hr;exact⟨by rw[hr.1],hg⟩
open Go.Proofs.Tryz in
theorem Sb{cf:Item->Item->Int}(hO:SWO (Go.Proofs.ltOf cf)){F:FuncId}(KX:∀x y,aC prog F [lv (ak x),lv (ak y)] (aH (cf x y)))
  (d:Array Item) (h0:0<d.size) (hsz:d.size<4611686018427387904) (limit:Nat) (hlim:limit<4611686018427387904) (n g:Nat) (ex:Bool) (H:GH) (ho:H.obj n=some (Uz ak 86 g 4 d ex)):
  aG prog 223 [.vs n g 4 0 d.size,aH 0,aH d.size,aH limit,.fn (.func F) [] []] H λce H'=>(∃v,ce=.ret v)/\∃d',PermIn 0 d.size d d'/\SortedIn (Go.Proofs.ltOf cf) 0 d.size d'/\H'=H.set n (Uz ak 86 g 4 d' ex):=by
 refine⟨call223,λG w vs hM qd hargs=>?_⟩
 unfold bH at hargs;obtain⟨v0,r0,rfl,hv0,hargs⟩:=hargs;unfold bH at hargs;obtain⟨v1,r1,rfl,YG,hargs⟩:=hargs;unfold bH at hargs;obtain⟨v2,r2,rfl,Uc,hargs⟩:=hargs;unfold bH at hargs;obtain⟨v3,r3,rfl,F3,hargs⟩:=hargs;unfold bH at hargs;obtain⟨v4,r4,rfl,hv4,hargs⟩:=hargs;unfold bH at hargs;subst hargs;simp only[aH]at YG Uc F3;unfold LR at hv0 YG Uc F3 hv4;unfold DR at YG Uc F3;obtain⟨rfl,_⟩:=YG;obtain⟨rfl,_⟩:=Uc;obtain⟨rfl,_⟩:=F3;obtain⟨tH,hgt,b,o,cap,rfl,hc1,hc2,htip⟩:=hv0;obtain⟨fs,cs,rfl,KW,hcs⟩:=hv4;unfold bH at KW hcs;subst KW;subst hcs;obtain⟨_,kp⟩:=hM.iC n _ ho;obtain⟨t1,t2,b1,C1,vs0,rest,t3,t4,t5,t6,t7,t8,t9,t10,t11⟩:=(kp:OR G H.next w n (.vec 86 g 4 (Af ak d) ex));obtain⟨C,e1,e2,e3⟩:=htip t1.symm;rw[t3]at e1;cases e1;have hcC:cap=C1:=by omega
 subst hcC;have ho0:o=0:=by have:=e3 (by omega);omega
 subst ho0;have QF:∀x,(encI x).length=4:=λ_=>rfl
 have hvs:vs0=JO encI d.toList:=S2 _ _ t8;have hvl:vs0.length=d.size*4:=by rw[hvs,zA QF];simp
 have hblk:=eN t6;have hH:HoldsK encI 4 w b 0 d:=by
  intro j hj;simp only[size_flatK]at hj;constructor
  ·simp only[World.cell?,t6,Nat.zero_add,id];rw[BO QF d j hj];have h1:=Gk QF (by omega) d.toList j (by simpa using hj)
   have h2:(JO encI d.toList++rest)[j]?=(JO encI d.toList)[j]?:=List.getElem?_append_left (by rw[<-hvs];omega)
   rw[hvs];simp at h1;simp[h2,h1]
  ·simp[World.frozen?,t6]
 have hone:∀x:Item,∀v∈encI x,v.oneCell'=true:=λx v hv=>by
  simp only[encI,List.mem_cons,List.not_mem_nil,or_false]at hv;rcases hv with rfl|rfl|rfl|rfl<;>rfl
 have hcmp:=Tv KX (blk:=b) (off:=0) (size:=d.size) (w:=w);have gY:=Go.Proofs.AnyQ.pdqsortCmpFunc_all Sd 4 isAgg86 sizeOf86 encI cf F #[] hO b 0 cap d w (KX default default H0).1 hcmp ⟨QF,hone,hH,hblk⟩ (d.size+1) 0 d.size limit d w (by omega) rfl (Go.Proofs.SWK.start hH) (Nat.zero_le _) (Nat.le_refl _) hsz hlim (Or.inl rfl)
 refine Calls.mono gY ?_;rintro e w' ⟨rfl,m,os,rfl⟩;have hpd:=pdq_sorts (Go.Proofs.ltOf cf) hO d 0 d.size limit true true (Nat.zero_le _) (Nat.le_refl _) (Or.inl rfl);obtain⟨hp,hs⟩:=hpd;generalize pdq (Go.Proofs.ltOf cf) d 0 d.size limit true true=d' at hp hs|-;have hds:d'.size=d.size:=hp.1;obtain⟨ob,Ss⟩:∃ob,Obj.cells (JO encI d'.toList++rest).toArray 86 (0,0)=ob:=⟨_,rfl⟩;have hw:Go.Proofs.sortWorldK encI 4 w b 0 m d' os=grow ((eU w b ob).drewN m) os:=by
  unfold Go.Proofs.sortWorldK putRowK;rw[putRow_ahead,Ig t6,LF QF d' vs0 rest (by rw[hvl,hds]),Ss]
  rfl
 have hv:qJ G H.next (eU w b ob) b cap 86 4 (Af ak d') ex:=by
  refine⟨by decide,hc2,JO encI d'.toList,rest,?_,?_,N2 (λM x=>GB x) _,?_,t10,?_⟩
  ·rw[ew,if_pos ⟨rfl,hblk⟩,Ss]
  ·intro v hv;rcases List.mem_append.1 hv with q|q
   ·obtain⟨l,hl,q⟩:=List.mem_flatten.1 q;obtain⟨e,_,rfl⟩:=List.mem_map.1 hl;exact hone e v q
   ·exact t7 v (List.mem_append_right _ q)
  ·rw[List.length_append]at t9|-;rw[zA QF,Array.length_toList,hds,<-hvl,t9]
  ·rw[OZ (sz:=4) (λx=>rfl)];exact⟨d'.size,Nat.mul_comm _ _⟩
 obtain⟨r1,r2⟩:=hM.Rk (E:=⟨G,H,w⟩) ho t3 hv;rw[hw];exact⟨.ret (.dh []),_,G,⟨⟨_,rfl⟩,d',hp,hs,rfl⟩,⟨_,rfl,by unfold LR;exact⟨[],rfl,by unfold bH;rfl⟩⟩,r1.grown m os,qd,(r2 (Ext.refl G H w qd)).grown m os⟩
open Go.Proofs.Tryz in
theorem Ql(n:Nat)(hn:n<4611686018427387904):∃k:Nat,k<4611686018427387904/\aC prog 215 [.d (.k (.int .u64 n))] (aH k):=by
 refine⟨Lib.bitLen n,Nat.lt_of_le_of_lt (Lib.bitLen_le n 62 (by omega) (by omega)) (by omega),λH=>⟨call215,λG w vs hM qd hargs=>?_⟩⟩
 unfold bH at hargs;obtain⟨v0,r0,rfl,hv0,hargs⟩:=hargs;unfold bH at hargs;subst hargs;unfold LR DR at hv0;obtain⟨rfl,_⟩:=hv0;have h:=Go.Proofs.Any.bits_Len (Go.Proofs.SlLaysF0.n15.bits (P:=prog) (ρ:=Bo) {Sd with}) (n:Int) w (by omega) (by omega)
 rw[Int.toNat_natCast]at h;refine Calls.mono h ?_;rintro e w' ⟨rfl,rfl⟩;exact⟨.ret (aH (Lib.bitLen n)),H,G,⟨rfl,rfl⟩,⟨_,rfl,by simp only[aH];unfold LR DR;exact⟨rfl,rfl⟩⟩,hM,qd,Ext.refl G H _ qd⟩
end Go.Aft
end
section
namespace Go.Aft
instance (a b:Event):Decidable (Te a b):=by unfold Te;infer_instance
theorem iI{α:Type}{p:List α->Prop}(h0:p [])(h:∀l a,p l->p (l++[a])):∀l,p l:=by
 intro l;rw[<-List.reverse_reverse l]
 induction l.reverse with
 |nil=>exact h0
 |cons a l ih=>rw[List.reverse_cons];exact h _ _ ih
end Go.Aft
end
section
set_option maxRecDepth 20000
namespace Go.Aft
open Go.Proofs.Tryz
open Go.Sort (swp insInner insOuter insertionSort)
theorem bits_Len64(m:Nat)(hm:m<256)(H:GH):aG prog 248 [.d (.k (.int .u64 m))] H λce H'=>(∃v:Int,ce=.ret (aH v))/\H'=H:=by
 refine aG.bG aP func248 rfl call248 (by rw[ntmps248];simp) rfl λhf hw=>?_
 have h1:¬(4294967296:Int)<=m:=by omega
 have h2:¬(65536:Int)<=m:=by omega
 have h3:¬(256:Int)<=m:=by omega
 have h4:IntKind.wrap .u8 (m:Int)=m:=by simp[IntKind.wrap,IntKind.bits,IntKind.signed];omega
 simp[ntmps248,results248,h1,h2,h3,h4];exact⟨Nat.lt_of_lt_of_le hm (Nat.le_of_eq (by kernel_rfl)),λhz=>hz.drop (Nat.le_refl _)⟩
theorem bits_Len(m:Nat)(hm:m<256)(H:GH):aG prog 215 [.d (.k (.int .u64 m))] H λce H'=>(∃v:Int,ce=.ret (aH v))/\H'=H:=by
 refine aG.bG aP func215 rfl call215 (by rw[ntmps215];simp) rfl λhf hw=>?_
 simp[ntmps215,results215];refine EC.of (bits_Len64 m hm H) (λv H2 hR=>?_) (λv H2 hR=>?_)
 ·obtain⟨⟨n,e⟩,rfl⟩:=hR;cases e;simp;exact λhz=>hz.drop (Nat.le_refl _)
 ·obtain⟨⟨n,e⟩,_⟩:=hR;cases e
end Go.Aft
end
section
set_option maxRecDepth 20000
namespace Go.Aft
open Go.Proofs.Tryz
structure Way where
 gone:Nat
 bg0:Nat
 more:Nat
structure lB(e:TypeId)(sz:Nat)(H0:GH)(x:LV)(rows:List (List DV))(H:GH):Prop where
 is:rows=[]/\x=.d (.k (.slice none 0 0))\/ ∃n g,H0.next<=n/\n<H.next/\x=.vs n g sz 0 rows.length/\H.obj n=some (.vec e g sz (bM rows) false)/\rows≠[]
 nx:H0.next<=H.next
 ob:∀m,m<H0.next->H.obj m=H0.obj m
theorem lB.nil{e:TypeId}{sz:Nat}{H:GH}:lB e sz H (.d (.k (.slice none 0 0))) [] H:=⟨.inl ⟨rfl,rfl⟩,Nat.le_refl _,λ_ _=>rfl⟩
theorem lB.plain{e:TypeId}{sz:Nat}{H0 H:GH}{x:LV}{rows:List (List DV)}(h:lB e sz H0 x rows H):Plain x:=by
 rcases h.is with⟨_,rfl⟩|⟨n,g,_,_,rfl,_⟩<;>exact⟨rfl,trivial,rfl,rfl⟩
theorem lB.only{e:TypeId}{sz:Nat}{H0 H:GH}{x:LV}{rows:List (List DV)}(h:lB e sz H0 x rows H){k:List Nat}:x.only k:=by
 rcases h.is with⟨_,rfl⟩|⟨n,g,_,_,rfl,_⟩<;>simp[LV.only]
theorem lB.nb{e:TypeId}{sz:Nat}{H0 H:GH}{x:LV}{rows:List (List DV)}(h:lB e sz H0 x rows H):x.nb H.next:=by
 rcases h.is with⟨rfl,rfl⟩|⟨n,g,_,h2,rfl,_⟩
 ·simp[LV.nb]
 ·exact h2
theorem lB.set{e:TypeId}{sz:Nat}{H0 H:GH}{x:LV}{rows:List (List DV)}(h:lB e sz H0 x rows H){k:Nat}(hk:k<H0.next)(o:GO):lB e sz (H0.set k o) x rows (H.set k o):=by
 refine⟨?_,h.nx,λm hm=>?_⟩
 ·rcases h.is with q|⟨n,g,q1,q2,q3,q4,q5⟩
  ·exact .inl q
  ·exact .inr ⟨n,g,q1,q2,q3,by rw[GH.ay,if_neg (by omega)];exact q4,q5⟩
 ·rw[GH.ay,GH.ay]
  split
  ·rfl
  ·exact h.ob m hm
theorem oZ(n:Nat)(rows:List (List DV)):cD n (bM rows):=by
 unfold bM;exact(Nw n _).mpr trivial
theorem eO.Kr{c:Cx}{s:S}{K:KT}{t:Nat}{T e:TypeId}{d ed:aU}{a b:Operand}{H0:GH}{rows ys:List (List DV)}(hT:c.ty T=some d)(hd:d.k=.sl e)(he:c.ty e=some ed)(hsz:ed.sz≠0)
  {x:LV} (ha:s.get a=x) (aA:lB e ed.sz H0 x rows s.H) (hb:kO s ed.sz (s.arg b)=some (∀r∈ys,r.length=ed.sz,ys.length,bM ys)) (NV:s.aI b) (hr:∀r∈rows,r.length=ed.sz) (hy:∀r∈ys,r.length=ed.sz)
  (hl:rows.length+ys.length<=34359738368) (hv:c.bO t=.vec)
  (hk:∀x' H',lB e ed.sz H0 x' (rows++ys) H'->s.H.next<=H'.next->(∀m,m<s.H.next->(∀g i l,x≠ .vs m g ed.sz i l)->H'.obj m=s.H.obj m)->@AP K (({s with H:=H'}:S).put (some t) x')):@eO c #[a,b] #[T,T] s (some t) K:=by
 obtain⟨k,sz,z,bt⟩:=d;simp only at hd;subst hd;have hap:s.aI a:=by
  unfold S.aI;rw[ha];rcases aA.is with⟨_,rfl⟩|⟨n,g,_,_,rfl,_⟩<;>trivial
 have sk:s.arg a=x:=by
  unfold S.arg;rw[ha];exact aA.plain.un
 refine eO.ev ?_;by_cases hys:ys=[]
 ·subst hys;rcases id aA.is with⟨rfl,e1⟩|⟨n,g,q1,q2,e1,e2,e3⟩
  ·rw[e1]at sk;have uR:eR c.ty c.bO s (some t) .append [T,T] [a,b]=some ⟨s.aI a/\s.aI b/\∀r∈([]:List (List DV)),r.length=ed.sz,.d (.k (.slice none 0 0)),.no⟩:=by
    simp only[eR,hT,he,sk,if_true,Option.bind_some,if_neg hsz,hv,hb,Option.map_some];rfl
   simp only[bV,uR,Option.some_or,nW];refine⟨⟨hap,NV,hy⟩,?_⟩;have:=hk (.d (.k (.slice none 0 0))) s.H ⟨.inl ⟨rfl,rfl⟩,aA.nx,aA.ob⟩ (Nat.le_refl _) λ_ _ _=>rfl
   exact this
  ·rw[e1]at sk;have uR:eR c.ty c.bO s (some t) .append [T,T] [a,b]=some ⟨s.aI a/\s.aI b/\∀r∈([]:List (List DV)),r.length=ed.sz,.vs n g ed.sz 0 rows.length,.no⟩:=by
    simp only[eR,hT,he,sk,e2,if_true,Option.bind_some,if_neg hsz,hv,hb,Option.map_some,and_self];rfl
   simp only[bV,uR,Option.some_or,nW];refine⟨⟨hap,NV,hy⟩,?_⟩;have:=hk (.vs n g ed.sz 0 rows.length) s.H ⟨.inr ⟨n,g,q1,q2,by simp,by simpa using e2,by simpa using e3⟩,aA.nx,aA.ob⟩ (Nat.le_refl _) λ_ _ _=>rfl
   exact this
 ·have hyl:ys.length≠0:=λq=>hys (List.eq_nil_of_length_eq_zero q)
  rcases id aA.is with⟨rfl,e1⟩|⟨n,g,q1,q2,e1,e2,e3⟩
  ·rw[e1]at sk;have uR:eR c.ty c.bO s (some t) .append [T,T] [a,b]=some ⟨s.aI a/\s.aI b/\(∀r∈ys,r.length=ed.sz)/\cD s.H.next (bM ys)/\ys.length<=34359738368,.vs s.H.next 0 ed.sz 0 ys.length,.iD (.vec e 0 ed.sz (bM ys) false)⟩:=by
    simp only[eR,hT,he,sk,if_true,Option.bind_some,if_neg hsz,hv,hb,Option.map_some,if_neg hyl]
   simp only[bV,uR,Option.some_or,nW];simp only[List.length_nil,Nat.zero_add]at hl;refine⟨⟨hap,NV,hy,oZ _ _,hl⟩,?_⟩;refine hk (.vs s.H.next 0 ed.sz 0 ys.length) (s.H.add (.vec e 0 ed.sz (bM ys) false)) ⟨.inr ⟨s.H.next,0,aA.nx,by rw[GH.aq];omega,by simp,by rw[GH.ax,if_pos rfl];simp,by simpa using hys⟩,by rw[GH.aq];have:=aA.nx;omega,λm hm=>?_⟩ (by rw[GH.aq];omega) (λm hm _=>by rw[GH.ax,if_neg (by omega)])
   have:=aA.nx;rw[GH.ax,if_neg (by omega)];exact aA.ob m hm
  ·rw[e1]at sk;have hfl:=kZ hr;have hlt:¬((rows.length+ys.length)*ed.sz<=(bM rows).length):=by
    rw[hfl,Nat.add_mul];have:0<ys.length*ed.sz:=Nat.mul_pos (by omega) (by omega)
    omega
   have gx:(bM rows).take (rows.length*ed.sz)=bM rows:=List.take_of_length_le (by rw[hfl];exact Nat.le_refl _)
   have uR:eR c.ty c.bO s (some t) .append [T,T] [a,b]=some ⟨s.aI a/\s.aI b/\(∀r∈ys,r.length=ed.sz)/\cD s.H.next (bM ys)/\rows.length*ed.sz<=(bM rows).length/\rows.length+ys.length<=34359738368,.vs n (g+1) ed.sz 0 (rows.length+ys.length),.dV n (.vec e (g+1) ed.sz (bM rows++bM ys) false)⟩:=by
    simp only[eR,hT,he,sk,e2,if_true,Option.bind_some,if_neg hsz,hv,hb,Option.map_some,if_neg hyl,and_self,if_neg hlt,gx]
   simp only[bV,uR,Option.some_or,nW];refine⟨⟨hap,NV,hy,oZ _ _,by rw[hfl];exact Nat.le_refl _,hl⟩,?_⟩
   refine hk (.vs n (g+1) ed.sz 0 (rows.length+ys.length)) (s.H.set n (.vec e (g+1) ed.sz (bM rows++bM ys) false)) ⟨.inr ⟨n,g+1,q1,q2,by simp,by rw[GH.ay,if_pos rfl,wh],by simpa using λq:rows=[]=>absurd q e3⟩,by rw[GH.aM];exact aA.nx,λm hm=>by rw[GH.ay,if_neg (by omega)];exact aA.ob m hm⟩ (by rw[GH.aM];exact Nat.le_refl _) (λm hm hne=>?_)
   rw[GH.ay,if_neg];intro e;subst e;exact hne _ _ _ e1
end Go.Aft
end
section
set_option maxRecDepth 20000
namespace Go.Aft
open Go.Proofs.Tryz
open Go.Sort (swp insInner insOuter insertionSort)
theorem kH{H H2:GH}(hw:gU H){n g sz:Nat}{rows:List (List DV)}(hn:H.next<=n)(h:∀m,m<H.next->H2.obj m=H.obj m){m:Nat}(hm:m<H.next):(if m=n then none else Option.map (GO.cM n g sz rows) (H2.obj m))=H.obj m:=by
 rw[if_neg (by omega),h m hm]
 cases ho:H.obj m with
 |none=>rfl
 |some o=>simp only[Option.map_some];rw[GO.vB (N:=H.next) hn (hw.nb m o ho)]
theorem Mn(x:Int)(l:List Int)(hl:l.length<=1000):aC prog 126 [sl ((x::l).map rI)] (sl ((x::l).map rI)):=by
 intro H;have cc:=au (p:=bf [] [] [5]);refine aG.dG (au (p:=bf [] [] [5])) func126 rfl call126 (by rw[ntmps126];simp) rfl λhf hw=>?_
 have hlen:∀r∈l.map rI,r.length=1:=λr hr=>by obtain⟨_,_,rfl⟩:=List.mem_map.1 hr;rfl
 have Wo:(l.map rI).length=l.length:=by simp
 rw[List.map_cons];have hx:(rI x).length=1:=rfl;generalize rI x=r0 at hx|-;generalize l.map rI=rows at hlen Wo|-;simp[ntmps126,results126];refine AW.seq cc ?_;simp;refine AW.seq cc ?_;simp;refine AW.seq cc ?_;simp;refine eO.ev ?_;have h3:rows.length+1<=34359738368:=by omega
 have ob:∀o,(H.add o).obj H.next=some o:=λo=>by simp[GH.ax]
 have hnb:∀m,cD m (bM (r0::rows)):=λm=>oZ _ _
 have hfl:bM (r0::rows)≠[]:=λq=>by have:=congrArg List.length q;rw[kZ (sz:=1) (by simpa[hx]using hlen)]at this;simp at this
 generalize hF:bM (r0::rows)=F at hnb hfl;have h4:rows.length<=34359738367:=by omega
 simp[hx,ob,hF,hnb,h4,GH.cV];refine⟨hlen,?_⟩;refine AW.cM (n:=H.next) (g:=1) (sz:=1) (e:=3) (ex:=false) (r0::rows) (ob _) hF.symm (by simpa[hx]using hlen) ?_
 refine AW.ev cc ?_;simp;exact λhz=>aL (by simp[GH.aq]) (λm hm=>kH hw (Nat.le_refl _) (λk hk=>by rw[GH.ax,if_neg (by omega)]) hm) hw.none
end Go.Aft
end
section
set_option maxRecDepth 20000
namespace Go.Aft
open Go.Proofs.Tryz
open Go.Sort (swp insInner insOuter insertionSort SWO PermIn SortedIn)
def RX:LV:=.d (.k (.slice none 0 0))
@[simp] theorem aO7:RX=.d (.k (.slice none 0 0)):=rfl
theorem za(F:FuncId):aC prog 256 [RX,aH 0,aH 0,.fn (.func F) [] []] (.dh []):=by
 have cc:=au (p:=bf [] [] []);refine aC.body (au (p:=bf [] [] [])) func256 rfl call256 (by rw[ntmps256];simp) rfl λhf H=>?_
 have w1:IntKind.wrap .i64 1=1:=rfl;simp[ntmps256,results256,w1];refine AW.aV cc (λ_:Unit=>⟨[(0,RX),(1,aH 0),(2,aH 0),(3,.fn (.func F) [] []),(8,aH 1)],[],H⟩) (λ_=>0) (λ_=>True) () ⟨trivial,by simp[LV.only,ec]⟩ ?_
 rintro _ _;simp
theorem Pt(lim:Int)(F:FuncId):aC prog 223 [RX,aH 0,aH 0,aH lim,.fn (.func F) [] []] (.dh []):=by
 have cc:=au (p:=bf [] [] []);refine aC.body (au (p:=bf [] [] [])) func223 rfl call223 (by rw[ntmps223];simp) rfl λhf H=>?_
 have hi:=za F;simp[ntmps223,results223]at hi|-;refine AW.aV cc (λ_:Unit=>⟨[(0,RX),(1,aH 0),(2,aH 0),(3,aH lim),(4,.fn (.func F) [] []),(10,.d (.k (.bool true))),(11,.d (.k (.bool true)))],[],H⟩) (λ_=>0) (λ_=>True) () ⟨trivial,by simp[LV.only,ec]⟩ ?_
 rintro _ _;have w0:IntKind.wrap .i64 0=0:=rfl;simp[w0,LV.nb,cD];refine EC.aJ hi ?_;simp
def Ly(r:Rec):List Int:=[r.at_,r.key,r.val]
def EI(a b:Item):Int:=y9 (Ly a.aa) (Ly b.aa)
theorem wq(a b:Item):EI a b<0↔cO a.aa b.aa=true:=by
 have h3:∀x y:Int,x<y/\jW x y= -1\/ y<x/\jW x y=1\/ x=y/\jW x y=0:=λx y=>by unfold jW;split<;>(try split)<;>omega
 have e1:=h3 a.aa.at_ b.aa.at_;have e2:=h3 a.aa.key b.aa.key;have e3:=h3 a.aa.val b.aa.val;simp only[EI,Ly,y9,cO,decide_eq_true_eq];generalize jW a.aa.at_ b.aa.at_=x at*;generalize jW a.aa.key b.aa.key=y at*;generalize jW a.aa.val b.aa.val=z at*
 split
 ·split
  ·split<;>omega
  ·omega
 ·omega
theorem Qd:SWO (Go.Proofs.ltOf EI) where
 irrefl x:=by simp only[Go.Proofs.ltOf];rw[decide_eq_false_iff_not,wq,oJ];simp
 trans x y z h1 h2:=by
  simp only[Go.Proofs.ltOf,decide_eq_true_eq,wq]at*;exact kS h1 h2
 ntrans x y z h1 h2:=by
  simp only[Go.Proofs.ltOf,decide_eq_false_iff_not,wq,cO,decide_eq_true_eq]at*;omega
theorem FO(a b:Item):aC prog 184 [lv (ak a),lv (ak b)] (aH (EI a b)):=by
 refine aC.body (au (p:=bf [2,3] [] [])) func184 rfl call184 (by rw[ntmps184];simp) rfl λhf H=>?_
 have h:=rq (Ly a.aa) (Ly b.aa);simp[Ly,rI]at h;have hr:List.range' 0 3=[0,1,2]:=rfl;simp[ntmps184,results184,ak,hr];refine EC.aJ h ?_;simp[EI,Ly]
theorem Pu(l:List Item)(hl:l.length<=1000000000)(x:LV)(H0 H:GH)(hv:lB 86 4 H0 x (l.map ak) H):
  aG prog 183 [x,.fn (.func 184) [] []] H λce H'=>(∃v,ce=.ret v)/\H'.next=H.next/\∃l':List Item,l'.Perm l/\l'.Pairwise (λa b=>cO b.aa a.aa=false)/\lB 86 4 H0 x (l'.map ak) H':=by
 have cc:=au (p:=bf [] [] []);rcases id hv.is with⟨e1,e2⟩|⟨n,g,q1,q2,q3,q4,q5⟩
 ·have hxs:l=[]:=by simpa using e1
  subst hxs;subst e2;refine aG.bG (au (p:=bf [] [] [])) func183 rfl call183 (by rw[ntmps183];simp) rfl λhf hw=>?_
  have hpdq:=λlim=>Pt lim 184
  have w0:IntKind.wrap .u64 0=0:=rfl;simp[ntmps183,results183,w0]at hpdq|-;refine EC.of (bits_Len 0 (by omega) H) (λv H2 hR=>?_) (λv H2 hR=>by obtain⟨⟨_,e⟩,_⟩:=hR;cases e)
  obtain⟨⟨lim,e⟩,rfl⟩:=hR;cases e;simp[LV.nb,cD];refine EC.aJ (hpdq lim) ?_;simp;exact λhz=>⟨_,hz.drop (Nat.le_refl _),rfl,by simpa using hv⟩
 ·have hxs:l≠[]:=by simpa using q5
  subst q3;refine aG.bG (au (p:=bf [] [] [])) func183 rfl call183 (by rw[ntmps183];simp) rfl λhf hw=>?_
  have hlp:0<l.length:=List.length_pos_iff.2 hxs;obtain⟨k,hk,hb⟩:=Ql l.length (by omega)
  have hs:=Sb (cf:=EI) Qd (F:=184) FO l.toArray (by simpa using hlp) (by simp;omega) k hk n g false H (by simpa[Uz,Af]using q4)
  have wl:IntKind.wrap .u64 (l.length:Int)=l.length:=by
   show(if(false&&decide ((l.length:Int)%18446744073709551616≥9223372036854775808))=true then(l.length:Int)%18446744073709551616-18446744073709551616 else(l.length:Int)%18446744073709551616)=_
   simp;omega
  simp at hs hb;simp[ntmps183,results183,q2,wl];refine EC.aJ hb ?_;simp[q2,LV.nb,cD];refine EC.of hs (λv H2 hR=>?_) (λv H2 hR=>by obtain⟨⟨_,e⟩,_⟩:=hR;cases e)
  obtain⟨_,d',hp,hs',rfl⟩:=hR;have hsz:d'.size=l.length:=by simpa using hp.1
  have mQ:d'.toList.Perm l:=by
   have h3:=hp.2.2
   try simp only[List.size_toArray]at h3
   rw[show(l.toArray.extract 0 l.length).toList=l by simp,show(d'.extract 0 l.length).toList=d'.toList by rw[<-hsz];simp]at h3
   exact h3
  have Pz:d'.toList.Pairwise (λa b=>cO b.aa a.aa=false):=by
   rw[List.pairwise_iff_getElem];intro i j hi hj hij;have hi':i<d'.size:=by simpa using hi
   have hj':j<d'.size:=by simpa using hj
   have h3:=hs' i j (Nat.zero_le _) hij (by first|omega|(simp;omega))
   rw[getElem!_pos _ i hi',getElem!_pos _ j hj']at h3;simp only[Go.Proofs.ltOf,decide_eq_false_iff_not,wq]at h3;simpa using h3
  simp;refine λhz=>⟨_,hz.drop (by rw[GH.aM];exact Nat.le_refl _),by rw[GH.aM],d'.toList,mQ,Pz,.inr ⟨n,g,q1,q2,by simp[hsz],?_,?_⟩,by rw[GH.aM];exact hv.nx,λm hm=>?_⟩
  ·rw[GH.aY];simp[Uz,Af]
  ·intro q;have:=congrArg List.length q;simp only[List.length_map,List.length_nil,Array.length_toList]at this;omega
  ·rw[GH.ay,if_neg (by omega)];exact hv.ob m hm
theorem dy{α:Type}[DecidableEq α]:∀{a b:List α},a.Nodup->(∀x∈a,x∈b)->a.length<=b.length
 |[],b,_,_=>by simp
 |x::a,b,h,hs=>by
  rw[List.nodup_cons]at h;have hx:=hs x (List.mem_cons_self ..);have:=dy (a:=a) (b:=b.erase x) h.2 λy hy=>(List.mem_erase_of_ne (λe:y=x=>h.1 (by rw[<-e];exact hy))).2 (hs y (List.mem_cons_of_mem _ hy))
  rw[List.length_erase_of_mem hx]at this;have hpos:0<b.length:=List.length_pos_of_mem hx;simp only[List.length_cons];omega
end Go.Aft
end
section
set_option maxRecDepth 20000
namespace Go.Aft
open Go.Proofs.Tryz
def kR(r:Rec):Value:=.agg #[.int .i64 r.at_,.int .i64 r.key,.int .i64 r.val]
theorem Mk{a b:Rec}:xd (kR a) (kR b)=decide (a=b):=by
 obtain⟨a1,a2,a3⟩:=a;obtain⟨b1,b2,b3⟩:=b;simp[xd,kR,allEq,vC];rw[Bool.eq_iff_iff];simp[and_assoc]
def oq(M:List Item):List (Value×LV):=M.map λx=>(kR x.aa,aH x.n)
theorem J3(M:List Item):∀(a:Value) (b:LV),(a,b)∈oq M->(KK.ag [.int .i64,.int .i64,.int .i64]).has a=true:=λa b h=>by
 obtain⟨x,_,q⟩:=List.mem_map.1 h;cases q;rfl
def uG(r:Rec):List Item->Int
 |[]=>0
 |x::l=>if r=x.aa then x.n else uG r l
def jN(x:Item):List Item->List Item
 |[]=>[x]
 |y::l=>if x.aa=y.aa then⟨x.aa,y.n+x.n⟩::l else y::jN x l
theorem A4(r:Rec):∀M:List Item,(bD (kR r) (oq M)).getD (.d (.k (.int .i64 0)))=aH (uG r M)
 |[]=>rfl
 |x::M=>by
  have ih:=A4 r M;simp only[oq,List.map_cons,bD,Mk,uG]at ih|-;by_cases e:r=x.aa
  ·simp[e]
  ·simp[e];exact ih
theorem wW(x:Item):∀M:List Item,cr (kR x.aa) (aH (uG x.aa M+x.n)) (oq M)=oq (jN x M)
 |[]=>by simp[oq,cr,uG,jN]
 |y::M=>by
  have ih:=wW x M;simp only[oq,List.map_cons,cr,Mk,uG,jN]at ih|-;by_cases e:x.aa=y.aa
  ·simp[e]
  ·simp only[e,decide_false,Bool.false_eq_true,if_false,List.map_cons];rw[ih]
theorem Kx{x y:Item}:∀{M:List Item},y∈jN x M->y.aa=x.aa\/ y∈M
 |[],h=>by simp[jN]at h;exact .inl (by rw[h])
 |z::M,h=>by
  rw[jN]at h
  split at h
  ·rcases List.mem_cons.1 h with q|q
   ·exact .inl (by rw[q])
   ·exact .inr (by simp[q])
  ·rcases List.mem_cons.1 h with q|q
   ·exact .inr (by simp[q])
   ·exact(Kx q).imp id λq=>by simp[q]
theorem Oi{x:Item}:∀{M:List Item},M.Pairwise (λa b=>a.aa≠b.aa)->(jN x M).Pairwise (λa b=>a.aa≠b.aa)
 |[],h=>by simp[jN]
 |z::M,h=>by
  have h':=List.pairwise_cons.1 h;rw[jN]
  split
  ·rename_i e;exact List.pairwise_cons.2 ⟨λw hw=>by simp only;rw[e];exact h'.1 w hw,h'.2⟩
  ·rename_i e;refine List.pairwise_cons.2 ⟨λw hw=>?_,Oi h'.2⟩
   rcases Kx hw with q|q
   ·rw[q];exact λq=>e q.symm
   ·exact h'.1 w q
theorem Im{r:Rec}:∀{M:List Item},M.Pairwise (λa b=>a.aa≠b.aa)->uG r M=bS M r
 |[],_=>rfl
 |x::M,h=>by
  have h':=List.pairwise_cons.1 h;rw[uG,bS];by_cases e:r=x.aa
  ·rw[if_pos e,if_pos e.symm,o9 λy hy q=>h'.1 y hy (by rw[q,e])];omega
  ·rw[if_neg e,if_neg λq=>e q.symm,Im h'.2];omega
theorem EH{x:Item}{r:Rec}:∀M:List Item,bS (jN x M) r=bS M r+if x.aa=r then x.n else 0
 |[]=>by simp[jN,bS]
 |y::M=>by
  rw[jN]
  split
  ·rename_i e;rw[bS,bS,e];simp only
   split<;>omega
  ·rw[bS,bS,EH M];omega
theorem Ky(x:Item):∀M:List Item,(jN x M).length<=M.length+1
 |[]=>by simp[jN]
 |y::M=>by
  rw[jN]
  split
  ·simp
  ·have:=Ky x M;simp;omega
def Pw(top:Int)(x:Item):Bool:=decide (0<=x.aa.at_/\x.aa.at_<=top)
def qP(l:List Item):List Item:=l.foldl (λM x=>jN x M) []
theorem JM:∀(l M:List Item),M.Pairwise (λa b=>a.aa≠b.aa)->(l.foldl (λM x=>jN x M) M).Pairwise (λa b=>a.aa≠b.aa)
 |[],M,h=>h
 |x::l,M,h=>by rw[List.foldl_cons];exact JM l _ (Oi h)
theorem Ev{r:Rec}:∀(l M:List Item),bS (l.foldl (λM x=>jN x M) M) r=bS M r+bS l r
 |[],M=>by simp[bS]
 |x::l,M=>by rw[List.foldl_cons,Ev l,EH,bS];omega
theorem Oj(l:List Item):(qP l).Pairwise (λa b=>a.aa≠b.aa):=JM l [] .nil
theorem KA(l:List Item)(r:Rec):bS (qP l) r=bS l r:=by rw[qP,Ev];simp[bS]
theorem Qv(l:List Item)(x:Item):qP (l++[x])=jN x (qP l):=by simp[qP]
theorem TS(l:List Item):(qP l).length<=l.length:=by
 have:∀(l M:List Item),(l.foldl (λM x=>jN x M) M).length<=M.length+l.length:=by
  intro l
  induction l with
  |nil=>intro M;simp
  |cons x l ih=>intro M;rw[List.foldl_cons];have:=ih (jN x M);have:=Ky x M;simp;omega
 simpa[qP]using this l []
theorem B3{r:Rec}{b:Int}:∀{l:List Item},(∀x∈l,-b<=x.n/\x.n<=b)->0<=b->-(b*l.length)<=bS l r/\bS l r<=b*l.length
 |[],_,_=>by simp[bS]
 |x::l,h,hb=>by
  have ih:=B3 (r:=r) (l:=l) (λy hy=>h y (List.mem_cons_of_mem _ hy)) hb
  have hx:=h x (by simp)
  have e:b*((x::l).length:Int)=b*(l.length:Int)+b:=by rw[List.length_cons,Int.natCast_add,Int.mul_add];simp
  rw[bS,e]
  split<;>omega
def qV(M:List Item)(seen:List Nat):List Item:=(seen.map λi=>M.getD i default).filter λx=>decide (x.n≠0)
theorem Lb{M:List Item}{seen:List Nat}(hn:seen.Nodup)(hb:∀i∈seen,i<M.length)(ha:∀i,i<M.length->i∈seen):(qV M seen).Perm (M.filter λx=>decide (x.n≠0)):=by
 have h1:seen.Perm (List.range M.length):=(List.perm_ext_iff_of_nodup hn List.nodup_range).2 λi=>by
  rw[List.mem_range];exact⟨hb i,ha i⟩
 have h2:(List.range M.length).map (λi=>M.getD i default)=M:=by
  refine List.ext_getElem (by simp) λi h1 h2=>?_
  simp[h2]
 unfold qV;have:=(h1.map (λi=>M.getD i default)).filter (λx=>decide (x.n≠0))
 rw[h2]at this;exact this
theorem bp(l:List Item):∀r∈l.map ak,r.length=4:=λr hr=>by obtain⟨_,_,rfl⟩:=List.mem_map.1 hr;rfl
theorem Kn{l l':List Item}{seen:List Nat}(hn:seen.Nodup)(hb:∀i∈seen,i<(qP l).length)(ha:∀i,i<(qP l).length->i∈seen)(hp:l'.Perm (qV (qP l) seen))(hs:l'.Pairwise (λa b=>cO b.aa a.aa=false)):l'=nw l:=by
 have mQ:=hp.trans (Lb hn hb ha);have qQ:l'.Pairwise (λa b=>a.aa≠b.aa):=mQ.symm.pairwise ((Oj l).filter _) λ{a b} q e=>q e.symm
 have PI:pG l':=by
  have:=hs.and qQ;refine this.imp λ{a b} q=>?_
  cases h:cO a.aa b.aa with
  |true=>rfl
  |false=>exact absurd (wQ h q.1) q.2
 have hz:∀x∈l',x.n≠0:=λx hx=>by
  have:=mQ.mem_iff.1 hx;simpa using(List.mem_filter.1 this).2
 refine wA PI hz λr=>?_
 rw[xH mQ,<-KA l];generalize qP l=M
 induction M with
 |nil=>rfl
 |cons x M ih=>
  rw[List.filter_cons];by_cases e:x.n=0
  ·simp only[e,ne_eq,not_true_eq_false,decide_false,Bool.false_eq_true,if_false,bS,ih]
   split<;>omega
  ·simp only[ne_eq,e,not_false_eq_true,decide_true,if_true,bS];rw[<-ih]
end Go.Aft
end
