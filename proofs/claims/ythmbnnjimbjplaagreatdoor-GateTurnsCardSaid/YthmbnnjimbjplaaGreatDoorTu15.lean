/- Parts of the proof. Conditions: none. -/
import Derived.Test.YthmbnnjimbjplaaGreatDoorTu11
import Derived.Test.YthmbnnjimbjplaaGreatDoorProg
import Derived.Shelf.RegionOpenPlain
import Derived.Deep.LoopGhost
import Derived.Deep.RegionLaw
import Derived.Lib.Walk
import Derived.Sort.WalkB12
import Derived.Lib.SliceRun
import Derived.Shelf.Spec.SlicesInsert
import Derived.Lib.AppendZerosOnto
import Derived.KernelRfl
set_option linter.unusedSimpArgs false
set_option linter.unusedVariables false
namespace Go.AM
open Go Go.RowKit
theorem dG{c:Nat}{e:TypeId}{fr:Nat×Nat}:∀ (us:List Value) (o:Nat) (vs:Array Value) (w:World),w.heap[c]?=some (.cells vs e fr)->w.setCells c o us=eS w c (.cells (ct vs.toList o us).toArray e fr)
 |[],o,vs,w,hO=>by simp [World.setCells,ct,pF hO]
 |u :: us,o,vs,w,hO=>by
  have hc:c<w.heap.size:=(Array.getElem?_eq_some_iff.1 hO).1
  have h2:(w.setCell ⟨c,o,none⟩ u).heap[c]?=some (.cells (vs.setIfInBounds o u) e fr):=by rw [setCell_eq hO,gR hc]
  simp only [World.setCells]
  rw [dG us (o+1) _ _ h2,setCell_eq hO,kz]
  simp [ct]
theorem iI{w:World}{b:Nat}{arr:Array Value}{el:TypeId}{fr:Nat×Nat}(hO:w.heap[b]?=some (.cells arr el fr))(hfr:fr.2<=fr.1)(i:Nat):w.frozen? ⟨b,i,none⟩=false:=by
 obtain ⟨lo,hi⟩:=fr
 simp only [World.frozen?,hO]
 simp at hfr ⊢
 omega
end Go.AM
namespace Go.Proofs
open Go.Shelf Go.RowKit Go.Lib Go.Sort Go.AM
theorem kG:Tryz.prog.follows .mixedOrders=true:=by kernel_rfl
theorem p9:∃ i0:TypeInfo,Tryz.prog.info? 61=some i0/\i0.zero=some (.slice none 0 0)/\i0.size=1/\i0.bytes=24:=info_parts (by kernel_rfl)
set_option maxHeartbeats 4000000 in
set_option maxRecDepth 1000000 in
theorem JJ:AB Tryz.prog 106:=by
 intro b arr el fr off n c i j w hO hfr hfit hnc hij hjn hbig h1
 have mixed:=kG
 obtain ⟨i0,hi0,hz0,hz1,hz2⟩:=p9
 have hrl:(bG arr off n).length=n:=jU (by omega)
 have hcell:∀ t,w.cell? ⟨b,t,none⟩=arr[t]?:=fun t=>cell_of hO t
 have hfz:∀ t,w.frozen? ⟨b,t,none⟩=false:=fun t=>iI hO hfr t
 by_cases heq:i=j
 ·subst heq
  have h0:Calls Tryz.prog 106 #[.slice (some ⟨b,off,none⟩) n c,.int .i64 i,.int .i64 i] w fun e w'=>e = .returned (.slice (some ⟨b,off,none⟩) n c)/\w'=w:=by
   clear hcell hfz hO h1
   go_enter Tryz.func106,Tryz.ntmps106
   go_wp2
   all_goals (go_ret;exact ⟨rfl,rfl⟩)
  refine h0.mono ?_
  rintro e w' ⟨rfl,rfl⟩
  refine ⟨by rw [Nat.sub_self,Nat.sub_zero],arr,rfl,fun k v hk=>?_,by rw [pF hO];exact ⟨rfl,rfl,rfl,rfl⟩⟩
  rw [List.take_append_drop] at hk
  have hlt:=(List.getElem?_eq_some_iff.1 hk).1
  rwa [eL (by omega)] at hk
 have hlt:i<j:=by omega
 obtain ⟨news,hnews⟩:∃ news,news=(bG arr off n).drop j:=⟨_,rfl⟩
 have hlen:news.length=n-j:=by rw [hnews,List.length_drop,hrl]
 have hget:∀ t u,news[t]?=some u->arr[off+(j+t)]?=some u:=fun t u hu=>by
  have ht:=(List.getElem?_eq_some_iff.1 hu).1
  rw [hnews,List.getElem?_drop,eL (by omega)] at hu
  exact hu
 obtain ⟨A,hA,hsrc⟩:∃ A:Addr,(if c=j then some (⟨b,off,none⟩:Addr) else some ⟨b,off+j,none⟩)=some A/\Hid (∀ t u,news[t]?=some u->w.drew.cell? (A.add t)=some u):=by
  by_cases h:c=j
  ·refine ⟨⟨b,off,none⟩,by simp [h],fun t u hu=>?_⟩
   have ht:=(List.getElem?_eq_some_iff.1 hu).1
   omega
  ·refine ⟨⟨b,off+j,none⟩,by simp [h],fun t u hu=>?_⟩
   rw [Addr.add_lit,show off+j+t=off+(j+t) by omega]
   exact (hcell _).trans (hget t u hu)
 have s1:Hid (news.length=(n-j)*1):=by rw [Nat.mul_one];exact hlen
 have s2:Hid (∀ u ∈ news,u.oneCell'=true):=by
  intro u hu
  rw [hnews] at hu
  exact h1 u (List.mem_of_mem_drop hu)
 have s3:Hid (∀ t,t<news.length->(w.drew.cell? ⟨b,off+i*1+t,none⟩).isSome=true/\w.drew.frozen? ⟨b,off+i*1+t,none⟩=false):=by
  intro t ht
  rw [hlen] at ht
  refine ⟨?_,hfz _⟩
  show (w.cell? _).isSome=true
  rw [hcell,Array.getElem?_eq_getElem (by omega)];rfl
 obtain ⟨W1,hW1⟩:∃ W1,W1=w.drew.setCells b (off+i*1) news:=⟨_,rfl⟩
 have hW2:W1=eS w.drew b (.cells (ct arr.toList (off+i*1) news).toArray el fr):=by rw [hW1];exact dG news _ arr w.drew hO
 have hbs:b<w.heap.size:=(Array.getElem?_eq_some_iff.1 hO).1
 have hO1:W1.heap[b]?=some (.cells (ct arr.toList (off+i*1) news).toArray el fr):=by rw [hW2];exact gR (w:=w.drew) hbs _
 have hsz1:(ct arr.toList (off+i*1) news).toArray.size=arr.size:=by simp [c8]
 have hcl:∀ ty,(Builtin.clear_ #[64] ty #[.slice (some ⟨b,off+(i+(n-j)),none⟩) (n-(i+(n-j))) (c-(i+(n-j)))]).run Tryz.prog W1 = .ok (.tuple #[]) (W1.setCells b (off+(i+(n-j))) (List.replicate (n-(i+(n-j))) (.slice none 0 0))):=
  fun ty=>Lib.run_clear_slice W1 _ _ ty _ Tryz.underlying64 Tryz.zeroValue61 rfl rfl b (off+(i+(n-j))) _ _ (by omega) (fun t ht=>by rw [cell_of hO1,Array.getElem?_eq_getElem (by rw [hsz1];omega)];rfl) (fun t ht=>iI hO1 hfr _)
 have X:Aside (W1=eS w.drew b (.cells (ct arr.toList (off+i*1) news).toArray el fr)/\(∀ t u,news[t]?=some u->arr[off+(j+t)]?=some u)/\news=(bG arr off n).drop j/\(bG arr off n).length=n/\news.length=n-j/\W1.heap[b]?=some (.cells (ct arr.toList (off+i*1) news).toArray el fr)):=⟨hW2,hget,hnews,hrl,hlen,hO1⟩
 have hW:Hid (W1=w.drew.setCells b (off+i*1) news):=hW1
 have hic:i<=c:=by omega
 have hjc:j<=c:=by omega
 clear hW1 hW2 hO1 hO hget hnews hlen hcell hfz h1 hrl hsz1
 go_enter Tryz.func106,Tryz.ntmps106
 go_wp2_with fail
 go_region_law_o (refine step_append_room rfl (.tmp 22) (.tmp 25) 64 rfl 61 i0 1 Tryz.underlying64 hi0 hz1 b off i c (by simp [Act.eval,Act.put]) A (n-j) (c-j) news (by simp [Act.eval,Act.put]) s1.out hsrc.out s2.out (by omega) s3.out ?_;rw [<- hW.out])
 go_wp2
 go_ret
 obtain ⟨hW2,hget,hnews,hrl,hlen,hO1⟩:=X.out
 refine ⟨by rw [show n-(j-i)=i+(n-j) by omega];rfl,(ct (ct arr.toList (off+i*1) news) (off+(i+(n-j))) (List.replicate (n-(i+(n-j))) (.slice none 0 0))).toArray,by simp [c8],fun k v hk=>?_,?_⟩
 ·have hkl:=(List.getElem?_eq_some_iff.1 hk).1
  rw [List.length_append,List.length_take,List.length_drop,hrl] at hkl
  rw [List.getElem?_toArray,cD _ _ _ _ (.inl (by omega))]
  by_cases hki:k<i
  ·rw [cD _ _ _ _ (.inl (by omega)),Array.getElem?_toList]
   rw [List.getElem?_append_left (by rw [List.length_take,hrl];omega),List.getElem?_take,if_pos hki,eL (by omega)] at hk
   exact hk
  ·have:=ep news arr.toList (off+i*1) (k-i) (by omega) (by have:=Array.length_toList (xs:=arr);omega)
   rw [show off+i*1+(k-i)=off+k by omega] at this
   rw [this,hnews]
   rw [List.getElem?_append_right (by rw [List.length_take,hrl];omega),List.length_take,hrl,show min i n=i by omega] at hk
   exact hk
 ·rw [dG _ _ _ _ hO1,hW2,kz]
  exact ⟨rfl,rfl,rfl,rfl⟩
set_option maxHeartbeats 4000000 in
set_option maxRecDepth 100000 in
theorem zf{b vb:Nat}{arr arr2:Array Value}{el el2:TypeId}{fr fr2:Nat×Nat}{off n c i voff vc:Nat}{x:Value}{w:World}(hO:w.heap[b]?=some (.cells arr el fr))(hfr:fr.2<=fr.1)(hV:w.heap[vb]?=some (.cells arr2 el2 fr2))(hfv:fr2.2<=fr2.1)(hne:b≠vb)
  (hfit:off+c<=arr.size) (hvc:1<=vc) (hvfit:voff+vc<=arr2.size) (hx:arr2[voff]?=some x) (hi:i<n) (hroom:n+1<=c) (hbig:(n+1)*24<=140737488355328) (h1:∀ v ∈ bG arr off n,v.oneCell'=true) (h1x:x.oneCell'=true) :
  Calls Tryz.prog 105 #[.slice (some ⟨b,off,none⟩) n c,.int .i64 i,.slice (some ⟨vb,voff,none⟩) 1 vc] w fun e w'=>
   e = .returned (.slice (some ⟨b,off,none⟩) (n+1) c)/\w'=(w.drew.setCells b (off+(i+1)) ((bG arr off n).drop i)).setCells b (off+i) [x]:=by
 have mixed:=kG
 obtain ⟨i0,hi0,hz0,hz1,hz2⟩:=p9
 have hrl:(bG arr off n).length=n:=jU (by omega)
 have hcell:∀ t,w.cell? ⟨b,t,none⟩=arr[t]?:=fun t=>cell_of hO t
 have hfz:∀ t,w.frozen? ⟨b,t,none⟩=false:=fun t=>iI hO hfr t
 have hcv:∀ t,w.cell? ⟨vb,t,none⟩=arr2[t]?:=fun t=>cell_of hV t
 have hbs:b<w.heap.size:=(Array.getElem?_eq_some_iff.1 hO).1
 have hsz:(Tryz.prog.info? 61).map (·.size)=some 1:=by rw [hi0];simp [hz1]
 obtain ⟨ds,hds⟩:∃ ds,ds=(bG arr off n).drop i:=⟨_,rfl⟩
 have hdl:ds.length=n-i:=by rw [hds,List.length_drop,hrl]
 have hdg:∀ t u,ds[t]?=some u->arr[off+(i+t)]?=some u:=fun t u hu=>by
  have ht:=(List.getElem?_eq_some_iff.1 hu).1
  rw [hds,List.getElem?_drop,eL (by omega)] at hu
  exact hu
 have hd1:∀ u ∈ ds,u.oneCell'=true:=fun u hu=>by rw [hds] at hu;exact h1 u (List.mem_of_mem_drop hu)
 have hov:∀ lb cb,(callFunc 161 #[.slice (some ⟨vb,voff,none⟩) 1 vc,.slice (some ⟨b,off+(i+1),none⟩) lb cb]).run Tryz.prog w = .ok (.value (.bool false)) w:=fun lb cb=>by
  rw [run_callFunc_extern Tryz.func161 (by kernel_rfl) (by kernel_rfl) (by kernel_rfl) (e:=Extern.SlicesOverlaps.overlaps #[64,64] #[4]) (by kernel_rfl),
   Lib.run_overlaps_apart w 64 4 61 Tryz.underlying64 1 Tryz.sizeOf61 ⟨vb,voff,none⟩ ⟨b,off+(i+1),none⟩ 1 vc lb cb (Ne.symm hne) el2 el arr2.size arr.size (by simp [World.shape?,hV]) (by simp [World.shape?,hO]) (by omega) (iI hV hfv _) (iI hV hfv _)]
  rfl
 have hw1:IntKind.i64.wrap ((i:Int)+1)=(i:Int)+1:=by rw [IntKind.wrap_i64];omega
 have hw2:IntKind.i64.wrap ((n:Int)+1)=(n:Int)+1:=by rw [IntKind.wrap_i64];omega
 obtain ⟨W1,hW1⟩:∃ W1,W1=w.drew.setCells b (off+(i+1)) ds:=⟨_,rfl⟩
 have hW2:W1=eS w.drew b (.cells (ct arr.toList (off+(i+1)) ds).toArray el fr):=by rw [hW1];exact dG ds _ arr w.drew hO
 have hO1:W1.heap[b]?=some (.cells (ct arr.toList (off+(i+1)) ds).toArray el fr):=by rw [hW2];exact gR (w:=w.drew) hbs _
 have hsz1:(ct arr.toList (off+(i+1)) ds).toArray.size=arr.size:=by simp [c8]
 have hcp1:∀ ty dc sc,(Builtin.copy_ #[64,64] ty #[.slice (some ⟨b,off+(i+1),none⟩) (n-i) dc,.slice (some ⟨b,off+i,none⟩) (n+1-i) sc]).run Tryz.prog w.drew = .ok (goInt ds.length) W1:=fun ty dc sc=>by
  rw [hW1]
  exact run_copy_cells w.drew _ _ ty 61 b (off+(i+1)) (n-i) dc ⟨b,off+i,none⟩ (n+1-i) sc ds Tryz.underlying64 hsz (by rw [hdl];simp only [Nat.min_def];split<;>omega)
   (fun t u hu=>by rw [Addr.add_lit,Nat.add_assoc];exact (hcell _).trans (hdg t u hu))
   (fun t ht=>by show (w.cell? _).isSome=true;rw [hcell,Array.getElem?_eq_getElem (by omega)];rfl) (fun t ht=>hfz _) hd1
 have hcp2:∀ (W:World),W.heap=W1.heap->∀ ty dc,(Builtin.copy_ #[64,64] ty #[.slice (some ⟨b,off+i,none⟩) (n+1-i) dc,.slice (some ⟨vb,voff,none⟩) 1 vc]).run Tryz.prog W = .ok (goInt [x].length) (W.setCells b (off+i) [x]):=fun W hWh ty dc=>by
  have hWO:W.heap[b]?=some (.cells (ct arr.toList (off+(i+1)) ds).toArray el fr):=by rw [hWh];exact hO1
  have hWV:W.heap[vb]?=some (.cells arr2 el2 fr2):=by rw [hWh,hW2,fo (Ne.symm hne)];exact hV
  exact run_copy_cells W _ _ ty 61 b (off+i) (n+1-i) dc ⟨vb,voff,none⟩ 1 vc [x] Tryz.underlying64 hsz (by simp only [Nat.min_def];split<;>simp<;>omega)
   (fun t u hu=>by
    cases t with
    |zero=>simp at hu;subst hu;rw [Addr.add_lit,Nat.add_zero,cell_of hWV];exact hx
    |succ t=>simp at hu)
   (fun t ht=>by simp at ht;rw [cell_of hWO,Array.getElem?_eq_getElem (by rw [hsz1];omega)];rfl) (fun t ht=>iI hWO hfr _) (fun u hu=>by simp at hu;subst hu;exact h1x)
 have hz3:¬ ((i:Int)=(n:Int)):=by omega
 have hb1:(0:Int)<=(i:Int)+1:=by omega
 have hin:i<=n:=by omega
 have htn:((i:Int)+1).toNat=i+1:=by omega
 have htn2:((n:Int)+1).toNat=n+1:=by omega
 have hb2:¬ (c=i+1):=by omega
 have hb3:(i:Int)<=(n:Int)+1:=by omega
 have hb4:¬ (c=i):=by omega
 have hb5:¬ ((c:Int)<(n:Int)+1):=by omega
 have X:Aside (W1=w.drew.setCells b (off+(i+1)) ds/\ds=(bG arr off n).drop i):=⟨hW1,hds⟩
 clear hW1 hW2 hO1 hds hO hV hcell hcv hfz h1 hrl hdg hdl hd1 hsz1 hx
 go_enter Tryz.func105,Tryz.ntmps105
 go_wp2_with (simp only [hov])
 go_region_law_o (refine step_copy_runI rfl _ _ 64 64 rfl _ _ (by simp [Act.eval,Act.put]) (by simp [Act.eval,Act.put]) (hcp1 _ _ _) ?_)
 go_wp2_with (at_builtin;refine wpList_copy_runI _ rfl _ _ 64 64 rfl _ _ rfl rfl (hcp2 _ rfl _ _) ?_)
 go_ret
 obtain ⟨e1,e2⟩:=X.out
 exact ⟨rfl,by rw [e1,e2]⟩
theorem Dp{vb:Nat}{arr2:Array Value}{el2:TypeId}{fr2:Nat×Nat}{voff vc:Nat}{x:Value}{w:World}(hV:w.heap[vb]?=some (.cells arr2 el2 fr2))(hx:arr2[voff]?=some x)(h1x:x.oneCell'=true):Src Tryz.prog 1 64 (.slice (some ⟨vb,voff,none⟩) 1 vc) 1 [x] w:=
 Src.ofSlice w Tryz.underlying64 ⟨vb,voff,none⟩ 1 vc [x] (by simp) (fun t u hu=>by
  cases t with
  |zero=>simp at hu;subst hu;rw [Addr.add_lit,Nat.add_zero,cell_of hV];exact hx
  |succ t=>simp at hu) (fun u hu=>by simp at hu;subst hu;exact h1x)
set_option maxHeartbeats 4000000 in
set_option maxRecDepth 100000 in
theorem Ci{b vb:Nat}{arr arr2:Array Value}{el el2:TypeId}{fr fr2:Nat×Nat}{off n c voff vc:Nat}{x:Value}{w:World}(hO:w.heap[b]?=some (.cells arr el fr))(hfr:fr.2<=fr.1)(hV:w.heap[vb]?=some (.cells arr2 el2 fr2))
  (hfit:off+c<=arr.size) (hx:arr2[voff]?=some x) (hroom:n+1<=c) (hbig:(n+1)*24<=140737488355328) (h1x:x.oneCell'=true) :
  Calls Tryz.prog 105 #[.slice (some ⟨b,off,none⟩) n c,.int .i64 n,.slice (some ⟨vb,voff,none⟩) 1 vc] w fun e w'=>
   e = .returned (.slice (some ⟨b,off,none⟩) (n+1) c)/\w'=w.setCells b (off+n) [x]:=by
 have mixed:=kG
 have hinfo:(Tryz.prog.info? 61).map (fun i=>(i.zero,i.size,i.bytes))=some (some (.slice none 0 0),1,24):=by kernel_rfl
 have hsrc:=Dp (voff:=voff) (vc:=vc) hV hx h1x
 have hsp:∀ t,t < [x].length->(w.cell? ⟨b,off+n+t,none⟩).isSome=true:=fun t ht=>by
  simp at ht
  rw [cell_of hO,Array.getElem?_eq_getElem (by omega)];rfl
 have hfz:∀ t,t < [x].length->w.frozen? ⟨b,off+n+t,none⟩=false:=fun t _=>iI hO hfr _
 clear hO hV hx
 go_enter Tryz.func105,Tryz.ntmps105
 go_wp2_with (at_builtin;refine wpList_append_room1 _ rfl _ _ 64 64 rfl 61 _ _ Tryz.underlying64 hinfo b off n c rfl _ rfl 1 [x] hsrc hroom hsp hfz ?_)
 go_ret
 exact ⟨rfl,rfl⟩
set_option maxHeartbeats 4000000 in
set_option maxRecDepth 100000 in
theorem mF{vb:Nat}{arr2:Array Value}{el2:TypeId}{fr2:Nat×Nat}{base:Option Addr}{n c voff vc:Nat}{x:Value}{cs:List Value}{w:World}(hV:w.heap[vb]?=some (.cells arr2 el2 fr2))(hx:arr2[voff]?=some x)(hnc:n<=c)(hroom:c<n+1)(hbig:(n+1)*24<=140737488355328)(h1x:x.oneCell'=true)
  (hcl:cs.length=n) (hnil:base=none->n=0) (hcs:∀ a,base=some a->∀ (t:Nat) (u:Value),cs[t]?=some u->w.cell? (a.add t)=some u) :
  Calls Tryz.prog 105 #[.slice base n c,.int .i64 n,.slice (some ⟨vb,voff,none⟩) 1 vc] w fun e w'=>
   e = .returned (.slice (some ⟨w.heap.size,0,none⟩) (n+1) (grownCap w (n+1) c 61)) /\
   w'=w.drew.alloc (.cells ((cs++[x]).toArray++Builtin.zeroCells (Value.slice none 0 0).cells (grownCap w (n+1) c 61-(n+1))) 61):=by
 have mixed:=kG
 obtain ⟨i0,hi0,hz0,hz1,hz2⟩:=p9
 have hsrc:Src Tryz.prog i0.size 64 (.slice (some ⟨vb,voff,none⟩) 1 vc) 1 [x] w:=by rw [hz1];exact Dp hV hx h1x
 have hold:(Builtin.firstCells i0.size n (.slice base n c)).run Tryz.prog w.drew = .ok cs.toArray w.drew:=by
  rw [hz1]
  cases base with
  |none=>
   have h0:=hnil rfl
   subst h0
   rw [List.length_eq_zero_iff.1 hcl]
   exact run_firstCells_none w.drew 1 0 0 c
  |some a=>exact run_firstCells_some w.drew 1 n a n c cs (by omega) (fun t u hu=>hcs a rfl t u hu)
 have hrun:∀ ty,(Builtin.append_ #[64,64] ty #[.slice base n c,.slice (some ⟨vb,voff,none⟩) 1 vc]).run Tryz.prog w=_:=fun ty=>
  run_append_grow_src w 64 64 ty 61 i0 _ Tryz.underlying64 hi0 hz0 base n c cs hold _ 1 [x] hsrc hroom (by omega) (by rw [hz2];exact growslice_fits hroom hbig)
 clear hV hx hcs
 go_enter Tryz.func105,Tryz.ntmps105
 cases base with
 |none=>
  have h0:=hnil rfl
  subst h0
  go_wp2_with (at_builtin;refine Lib.wpList_append_run _ rfl _ _ _ _ rfl _ _ rfl rfl _ _ (hrun _) ?_)
  go_ret
  exact ⟨rfl,rfl⟩
 |some a=>
  obtain ⟨ab,ao,asp⟩:=a
  go_wp2_with (at_builtin;refine Lib.wpList_append_run _ rfl _ _ _ _ rfl _ _ rfl rfl _ _ (hrun _) ?_)
  all_goals (go_ret;exact ⟨rfl,rfl⟩)
set_option maxHeartbeats 4000000 in
set_option maxRecDepth 100000 in
theorem AJ{b vb:Nat}{arr2:Array Value}{el2:TypeId}{fr2:Nat×Nat}{off n c i voff vc:Nat}{x:Value}{cs:List Value}{w:World}(hbw:b<w.heap.size)(hV:w.heap[vb]?=some (.cells arr2 el2 fr2))(hx:arr2[voff]?=some x)(hi:i<n)(hnc:n<=c)(hroom:c<n+1)(hbig:(n+1)*24<=140737488355328)(h1x:x.oneCell'=true)
  (hcl:cs.length=n) (hcs:∀ (t:Nat) (u:Value),cs[t]?=some u->w.cell? ⟨b,off+t,none⟩=some u) (h1:∀ u ∈ cs,u.oneCell'=true) :
  Calls Tryz.prog 105 #[.slice (some ⟨b,off,none⟩) n c,.int .i64 i,.slice (some ⟨vb,voff,none⟩) 1 vc] w fun e w'=>
   ∃ (G:Nat) (row:Array Value),n+1<=G/\e = .returned (.slice (some ⟨w.heap.size,0,none⟩) (n+1) G)/\row.size=G/\(∀ t,t<i->row[t]?=cs[t]?) /\
    w'=(((w.alloc (.cells row 61)).drew.setCells w.heap.size i [x]).drew).setCells w.heap.size (i+1) (cs.drop i):=by
 have mixed:=kG
 obtain ⟨i0,hi0,hz0,hz1,hz2⟩:=p9
 have hsz:(Tryz.prog.info? 61).map (·.size)=some 1:=by rw [hi0];simp [hz1]
 have hvw:vb<w.heap.size:=(Array.getElem?_eq_some_iff.1 hV).1
 have hkk:(n:Int)+1-(i:Int)=((n+1-i:Nat):Int):=by omega
 have hik:i+(n+1-i)=n+1:=by omega
 have hold:(Builtin.firstCells i0.size i (.slice (some ⟨b,off,none⟩) i c)).run Tryz.prog w.drew = .ok (cs.take i).toArray w.drew:=by
  rw [hz1]
  exact run_firstCells_some w.drew 1 i ⟨b,off,none⟩ i c (cs.take i) (by rw [List.length_take];omega) (fun t u hu=>by
   rw [Addr.add_lit]
   rw [List.getElem?_take] at hu
   split at hu
   ·exact hcs t u hu
   ·cases hu)
 obtain ⟨G,hG⟩:∃ G,G=grownCap w (n+1) c 61:=⟨_,rfl⟩
 obtain ⟨ROW,hROW⟩:∃ ROW:Array Value,ROW=(cs.take i).toArray++Builtin.zeroCells (Value.slice none 0 0).cells (n+1-i)++Builtin.zeroCells (Value.slice none 0 0).cells (G-(n+1)):=⟨_,rfl⟩
 have hGn:n+1<=G:=by rw [hG];exact grownCap_ge w _ _ _
 have hGm:G<=maxLen:=by rw [hG];exact grownCap_le_maxLen w (n+1) c 61 (by unfold maxLen;omega)
 have hRs:ROW.size=G:=by
  rw [hROW]
  simp [Builtin.zeroCells,Value.cells]
  omega
 have hRt:∀ t,t<i->ROW[t]?=cs[t]?:=fun t ht=>by
  rw [hROW,Array.append_assoc,Array.getElem?_append_left (by simp;omega)]
  simp [ht]
 have hrz:∀ ty,(Builtin.append_ #[64,3] ty #[.slice (some ⟨b,off,none⟩) i c,.int .i64 ((n:Int)+1-(i:Int))]).run Tryz.prog w = .ok (.slice (some ⟨w.heap.size,0,none⟩) (n+1) G) (w.drew.alloc (.cells ROW 61)):=fun ty=>by
  have h:=Lib.run_append_grow_zeros w 64 3 ty 61 i0 _ .i64 .i64 Tryz.underlying64 Tryz.underlying3 hi0 hz0 (some ⟨b,off,none⟩) i c (cs.take i) hold (n+1-i) (by omega) (by omega) (by omega) (by omega) (by rw [hz2];omega) (by rw [hz2,hik];exact growslice_fits hroom hbig)
  rw [hik,<- hG,<- hROW] at h
  rw [hkk]
  exact h
 obtain ⟨W1,hW1⟩:∃ W1,W1=w.drew.alloc (.cells ROW 61):=⟨_,rfl⟩
 rw [<- hW1] at hrz
 have hN:∀ t,t<n+1->(W1.cell? ⟨w.heap.size,t,none⟩).isSome=true:=fun t ht=>by
  rw [hW1,World.cell?_alloc_at (w:=w.drew) ROW _ w.heap.size t rfl,Array.getElem?_eq_getElem (by omega)];rfl
 have hNf:∀ t,W1.frozen? ⟨w.heap.size,t,none⟩=false:=fun t=>by rw [hW1];exact World.frozen?_alloc_at (w:=w.drew) ROW _ w.heap.size t rfl
 have hOb:∀ t u,w.cell? ⟨b,t,none⟩=some u->W1.cell? ⟨b,t,none⟩=some u:=fun t u h=>by rw [hW1,World.cell?_alloc_past (w:=w.drew) _ b t hbw];exact h
 have hOv:W1.cell? ⟨vb,voff,none⟩=some x:=by rw [hW1,World.cell?_alloc_past (w:=w.drew) _ vb voff hvw];exact (cell_of hV voff).trans hx
 have hbN:b≠w.heap.size:=by omega
 have hdl:(cs.drop i).length=n-i:=by rw [List.length_drop,hcl]
 have hcpA:∀ (W:World),(∀ q,W.cell? q=W1.cell? q)->(∀ q,W.frozen? q=W1.frozen? q)->∀ ty dc,(Builtin.copy_ #[64,64] ty #[.slice (some ⟨w.heap.size,i,none⟩) (n+1-i) dc,.slice (some ⟨vb,voff,none⟩) 1 vc]).run Tryz.prog W = .ok (goInt [x].length) (W.setCells w.heap.size i [x]):=fun W hWc hWf ty dc=>
  run_copy_cells W _ _ ty 61 w.heap.size i (n+1-i) dc ⟨vb,voff,none⟩ 1 vc [x] Tryz.underlying64 hsz (by simp only [Nat.min_def];split<;>simp<;>omega)
   (fun t u hu=>by
    cases t with
    |zero=>simp at hu;subst hu;rw [Addr.add_lit,Nat.add_zero,hWc];exact hOv
    |succ t=>simp at hu)
   (fun t ht=>by simp at ht;rw [hWc];exact hN _ (by omega)) (fun t ht=>by rw [hWf];exact hNf _) (fun u hu=>by simp at hu;subst hu;exact h1x)
 have hcpB:∀ (W:World),(∀ q,W.cell? q=(W1.setCells w.heap.size i [x]).cell? q)->(∀ q,W.frozen? q=(W1.setCells w.heap.size i [x]).frozen? q)->∀ ty dc sc,(Builtin.copy_ #[64,64] ty #[.slice (some ⟨w.heap.size,i+1,none⟩) (n-i) dc,.slice (some ⟨b,off+i,none⟩) (n-i) sc]).run Tryz.prog W = .ok (goInt (cs.drop i).length) (W.setCells w.heap.size (i+1) (cs.drop i)):=fun W hWc hWf ty dc sc=>
  run_copy_cells W _ _ ty 61 w.heap.size (i+1) (n-i) dc ⟨b,off+i,none⟩ (n-i) sc (cs.drop i) Tryz.underlying64 hsz (by rw [hdl];simp only [Nat.min_def];split<;>omega)
   (fun t u hu=>by
    rw [Addr.add_lit,hWc,World.cell?_setCells_out _ _ _ _ _ (fun h _=>absurd h hbN),Nat.add_assoc]
    exact hOb _ u (hcs (i+t) u (by rwa [List.getElem?_drop] at hu)))
   (fun t ht=>by rw [hWc];exact isSome_setCells _ _ _ _ (fun q hq=>hN _ (by simp at hq;omega)) _ (hN _ (by omega)))
   (fun t ht=>by rw [hWf,World.frozen?_setCells];exact hNf _) (fun u hu=>h1 u (List.mem_of_mem_drop hu))
 subst hW1
 have hE1:∀ q,((w.alloc (.cells ROW 61)).drew).cell? q=(w.drew.alloc (.cells ROW 61)).cell? q:=fun q=>rfl
 have hE2:∀ q,((w.alloc (.cells ROW 61)).drew).frozen? q=(w.drew.alloc (.cells ROW 61)).frozen? q:=fun q=>rfl
 have hF1:∀ q,(((w.alloc (.cells ROW 61)).drew.setCells w.heap.size i [x]).drew).cell? q=((w.drew.alloc (.cells ROW 61)).setCells w.heap.size i [x]).cell? q:=fun q=>rfl
 have hF2:∀ q,(((w.alloc (.cells ROW 61)).drew.setCells w.heap.size i [x]).drew).frozen? q=((w.drew.alloc (.cells ROW 61)).setCells w.heap.size i [x]).frozen? q:=fun q=>rfl
 have hGi:¬ (G=i):=by omega
 have hGim:¬ (G=i+1):=by omega
 have hci:¬ (c=i):=by omega
 have hw1:IntKind.i64.wrap ((i:Int)+1)=(i:Int)+1:=by rw [IntKind.wrap_i64];omega
 have hw2:IntKind.i64.wrap ((n:Int)+1)=(n:Int)+1:=by rw [IntKind.wrap_i64];omega
 have hw3:IntKind.i64.wrap ((n:Int)+1-(i:Int))=(n:Int)+1-(i:Int):=by rw [IntKind.wrap_i64];omega
 have hz3:(c:Int)<(n:Int)+1:=by omega
 have hz4:¬ ((i:Int)=(n:Int)):=by omega
 have hb1:(0:Int)<=(i:Int)+1:=by omega
 have hin:i<=n:=by omega
 have htn:((i:Int)+1).toNat=i+1:=by omega
 have hb3:(i:Int)<=(n:Int):=by omega
 unfold maxLen at hGm
 have X:Aside (n+1<=G/\ROW.size=G/\∀ t,t<i->ROW[t]?=cs[t]?):=⟨hGn,hRs,hRt⟩
 clear hkk hik hold hROW hG hRt hRs hV hx hcs hOb hOv hN hNf h1 hGn
 go_enter Tryz.func105,Tryz.ntmps105
 go_wp2_with (first
  |(at_builtin;refine Lib.wpList_append_run _ rfl _ _ _ _ rfl _ _ rfl rfl _ _ (hrz _) ?_)
  |(at_builtin;refine wpList_copy_runI _ rfl _ _ 64 64 rfl _ _ rfl rfl (hcpA _ hE1 hE2 _ _) ?_)
  |(at_builtin;refine wpList_copy_runI _ rfl _ _ 64 64 rfl _ _ rfl rfl (hcpB _ (fun _=>rfl) (fun _=>rfl) _ _ _) ?_))
 go_region_law_o (refine step_copy_runI rfl _ _ 64 64 rfl (.slice (some ⟨w.heap.size,i+1,none⟩) (n-i) (G-(i+1))) (.slice (some ⟨b,off+i,none⟩) (n-i) (c-i)) (by simp [Act.eval,Act.put]) (by simp [Act.eval,Act.put]) (hcpB _ hF1 hF2 3 (G-(i+1)) (c-i)) ?_)
 go_wp2
 go_ret
 obtain ⟨x1,x2,x3⟩:=X.out
 exact ⟨G,ROW,x1,rfl,x2,x3,rfl⟩
end Go.Proofs
namespace Go.AM
open Go Go.RowKit
theorem FP{w:World}{O O':Obj}:(eS (w.alloc O) w.heap.size O').heap=(w.alloc O').heap:=by
 show (w.heap.push O).setIfInBounds w.heap.size O'=w.heap.push O'
 apply Array.ext_getElem?
 intro i
 rw [Array.getElem?_setIfInBounds,Array.getElem?_push,Array.getElem?_push]
 by_cases h:w.heap.size=i
 ·subst h;simp
 ·rw [if_neg h]
  have h':¬ i=w.heap.size:=fun e=>h e.symm
  rw [if_neg h',if_neg h']
theorem vg{α:Type}{cs:List α}{x v:α}{i k:Nat}(hi:i<=cs.length)(h:(cs.take i++x :: cs.drop i)[k]?=some v):(k<i/\cs[k]?=some v)\/(k=i/\v=x)\/(i<k/\(cs.drop i)[k-(i+1)]?=some v):=by
 have hl:(cs.take i).length=i:=by rw [List.length_take];omega
 by_cases h1:k<i
 ·rw [List.getElem?_append_left (by omega),List.getElem?_take,if_pos h1] at h
  exact .inl ⟨h1,h⟩
 ·rw [List.getElem?_append_right (by omega),hl] at h
  by_cases h2:k=i
  ·subst h2
   rw [Nat.sub_self] at h
   simp at h
   exact .inr (.inl ⟨rfl,h.symm⟩)
  ·rw [show k-i=(k-(i+1))+1 by omega,List.getElem?_cons_succ] at h
   exact .inr (.inr ⟨by omega,h⟩)
end Go.AM
namespace Go.Proofs
open Go.Shelf Go.RowKit Go.Lib Go.Sort Go.AM
theorem AL:AD Tryz.prog 105:=by
 refine ⟨fun b vb arr arr2 el el2 fr fr2 off n c i voff vc x w hO hfr hV hfv hne hfit hnc hvc hvfit hx hin hbig h1 h1x=>?_,fun vb arr2 el2 fr2 voff vc x w hV hfv hvc hvfit hx h1x=>?_⟩
 ·have hrl:(bG arr off n).length=n:=jU (by omega)
  have hbs:b<w.heap.size:=(Array.getElem?_eq_some_iff.1 hO).1
  by_cases hroom:n+1<=c
  ·rcases Nat.lt_or_ge i n with hi|hi
   ·refine Calls.mono (zf hO hfr hV hfv hne hfit hvc hvfit hx hi hroom hbig h1 h1x) fun e w' hR=>?_
    obtain ⟨rfl,rfl⟩:=hR
    have e1:w.drew.setCells b (off+(i+1)) ((bG arr off n).drop i)=eS w.drew b (.cells (ct arr.toList (off+(i+1)) ((bG arr off n).drop i)).toArray el fr):=dG _ _ arr w.drew hO
    have e2:(eS w.drew b (.cells (ct arr.toList (off+(i+1)) ((bG arr off n).drop i)).toArray el fr)).heap[b]?=some (.cells (ct arr.toList (off+(i+1)) ((bG arr off n).drop i)).toArray el fr):=gR (w:=w.drew) hbs _
    refine .inl ⟨hroom,rfl,(ct (ct arr.toList (off+(i+1)) ((bG arr off n).drop i)) (off+i) [x]).toArray,by simp [c8],fun k v hk=>?_,?_⟩
    ·have hds:((bG arr off n).drop i).length=n-i:=by rw [List.length_drop,hrl]
     have hal:=Array.length_toList (xs:=arr)
     rw [List.getElem?_toArray]
     rcases vg (by omega) hk with ⟨h2,h3⟩|⟨rfl,rfl⟩|⟨h2,h3⟩
     ·rw [cD _ _ _ _ (.inl (by omega)),cD _ _ _ _ (.inl (by omega)),Array.getElem?_toList]
      rwa [eL (by omega)] at h3
     ·have:=ep [v] (ct arr.toList (off+(k+1)) ((bG arr off n).drop k)) (off+k) 0 (by simp) (by rw [c8];simp;omega)
      exact this
     ·rw [cD _ _ _ _ (.inr (by simp;omega))]
      have hlt:=(List.getElem?_eq_some_iff.1 h3).1
      have:=ep ((bG arr off n).drop i) arr.toList (off+(i+1)) (k-(i+1)) hlt (by omega)
      rw [show off+(i+1)+(k-(i+1))=off+k by omega] at this
      rw [this];exact h3
    ·rw [e1,dG _ _ _ _ e2,kz]
     exact ⟨rfl,rfl,rfl,rfl⟩
   ·obtain rfl:i=n:=by omega
    refine Calls.mono (Ci hO hfr hV hfit hx hroom hbig h1x) fun e w' hR=>?_
    obtain ⟨rfl,rfl⟩:=hR
    refine .inl ⟨hroom,rfl,(ct arr.toList (off+i) [x]).toArray,by simp [c8],fun k v hk=>?_,?_⟩
    ·have hal:=Array.length_toList (xs:=arr)
     rw [List.getElem?_toArray]
     rcases vg (by omega) hk with ⟨h2,h3⟩|⟨rfl,rfl⟩|⟨h2,h3⟩
     ·rw [cD _ _ _ _ (.inl (by omega)),Array.getElem?_toList]
      rwa [eL (by omega)] at h3
     ·have:=ep [v] arr.toList (off+k) 0 (by simp) (by simp;omega)
      exact this
     ·rw [List.drop_eq_nil_of_le (by omega)] at h3;simp at h3
    ·rw [dG _ _ arr w hO]
     exact ⟨rfl,rfl,rfl,rfl⟩
  ·rcases Nat.lt_or_ge i n with hi|hi
   ·refine Calls.mono (AJ (cs:=bG arr off n) hbs hV hx hi hnc (by omega) hbig h1x hrl (fun t u hu=>?_) h1) fun e w' hR=>?_
    ·have ht:=(List.getElem?_eq_some_iff.1 hu).1
     rw [eL (by omega)] at hu
     exact (cell_of hO _).trans hu
    obtain ⟨G,row,g1,rfl,g2,g3,rfl⟩:=hR
    have hds:((bG arr off n).drop i).length=n-i:=by rw [List.length_drop,hrl]
    have hal:=Array.length_toList (xs:=row)
    have e0:(w.alloc (.cells row 61)).drew.heap[w.heap.size]?=some (.cells row 61 (0,0)):=by show (w.heap.push _)[w.heap.size]?=_;simp
    have e1:=dG [x] i row (w.alloc (.cells row 61)).drew e0
    have hsz:w.heap.size<(w.alloc (.cells row 61)).drew.heap.size:=by show w.heap.size<(w.heap.push _).size;simp
    have e2:(eS (w.alloc (.cells row 61)).drew w.heap.size (.cells (ct row.toList i [x]).toArray 61 (0,0))).drew.heap[w.heap.size]?=some (.cells (ct row.toList i [x]).toArray 61 (0,0)):=gR hsz _
    refine .inr ⟨G,(ct (ct row.toList i [x]) (i+1) ((bG arr off n).drop i)).toArray,61,g1,rfl,by simp [c8,g2],fun k v hk=>?_,?_⟩
    ·rw [List.getElem?_toArray]
     rcases vg (by omega) hk with ⟨h2,h3⟩|⟨rfl,rfl⟩|⟨h2,h3⟩
     ·rw [cD _ _ _ _ (.inl (by omega)),cD _ _ _ _ (.inl (by omega)),Array.getElem?_toList,g3 k h2]
      exact h3
     ·rw [cD _ _ _ _ (.inl (by omega))]
      have:=ep [v] row.toList k 0 (by simp) (by simp;omega)
      exact this
     ·have hlt:=(List.getElem?_eq_some_iff.1 h3).1
      have:=ep ((bG arr off n).drop i) (ct row.toList i [x]) (i+1) (k-(i+1)) hlt (by rw [c8];omega)
      rw [show i+1+(k-(i+1))=k by omega] at this
      rw [this];exact h3
    ·rw [e1,dG _ _ _ _ e2]
     have hh:(eS (eS (w.alloc (.cells row 61)).drew w.heap.size (.cells (ct row.toList i [x]).toArray 61 (0,0))).drew w.heap.size (.cells (ct (ct row.toList i [x]) (i+1) ((bG arr off n).drop i)).toArray 61 (0,0))).heap=(eS (eS (w.alloc (.cells row 61)) w.heap.size (.cells (ct row.toList i [x]).toArray 61 (0,0))) w.heap.size (.cells (ct (ct row.toList i [x]) (i+1) ((bG arr off n).drop i)).toArray 61 (0,0))).heap:=rfl
     refine ⟨?_,rfl,rfl,rfl⟩
     refine Eq.trans ?_ (FP (w:=w) (O:=.cells row 61) (O':=.cells (ct (ct row.toList i [x]) (i+1) ((bG arr off n).drop i)).toArray 61))
     have h0:(ct row.toList i [x]).toArray.toList=ct row.toList i [x]:=rfl
     rw [h0,hh,kz]
   ·obtain rfl:i=n:=by omega
    refine Calls.mono (mF (base:=some ⟨b,off,none⟩) (cs:=bG arr off i) hV hx hnc (by omega) hbig h1x hrl (fun h=>by cases h) (fun a ha t u hu=>?_)) fun e w' hR=>?_
    ·cases ha
     have ht:=(List.getElem?_eq_some_iff.1 hu).1
     rw [eL (by omega)] at hu
     rw [Addr.add_lit]
     exact (cell_of hO _).trans hu
    obtain ⟨rfl,rfl⟩:=hR
    refine .inr ⟨_,_,61,grownCap_ge w _ _ _,rfl,?_,fun k v hk=>?_,⟨rfl,rfl,rfl,rfl⟩⟩
    ·have:=grownCap_ge w (i+1) c 61
     simp [Builtin.zeroCells,Value.cells,hrl];omega
    ·rw [show (bG arr off i).take i++x :: (bG arr off i).drop i=bG arr off i++[x] by rw [List.take_of_length_le (by omega),List.drop_eq_nil_of_le (by omega)]] at hk
     have hlt:=(List.getElem?_eq_some_iff.1 hk).1
     rw [Array.getElem?_append_left (by simpa using hlt)]
     simpa using hk
 ·refine Calls.mono (mF (base:=none) (n:=0) (c:=0) (cs:=[]) hV hx (Nat.le_refl 0) (by omega) (by omega) h1x rfl (fun _=>rfl) (fun a ha=>by cases ha)) fun e w' hR=>?_
  obtain ⟨rfl,rfl⟩:=hR
  refine ⟨_,_,61,grownCap_ge w _ _ _,rfl,?_,?_,⟨rfl,rfl,rfl,rfl⟩⟩
  ·have:1<=grownCap w 1 0 61:=grownCap_ge w 1 0 61
   simp [Builtin.zeroCells,Value.cells];omega
  ·rw [Array.getElem?_append_left (by simp)];rfl
end Go.Proofs