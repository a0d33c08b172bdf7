/- Parts of the proof. Conditions: none. -/
import Derived.Test.YtfdanacohcffmaaGreatKp8
import Derived.LoopN
set_option linter.unusedSimpArgs false
set_option linter.unusedVariables false
namespace Go.AM
open List Nat Bool Option
open Go Go.RowKit
inductive AXR (w0:World) (μ:Mu):AX->Exit->Prop where
 |normal:AXR w0 μ .normal .normal
 |exit (id:Nat):AXR w0 μ (.exit id) (.exit id)
 |ret:AXR w0 μ .ret .ret
 |panic (v:AV) (vc:Value) (h:VR w0 μ v vc):AXR w0 μ (.panic v) (.panic [{ v:=vc,recovered:=false }])
def Bj(w0:World)(μ:Mu)(h:Heap)(w:World)(K:AX->St->Bool)(Q:Exit->Act->World->Prop):Prop:=
 ∀ (e:AX) (ex:Exit) (s':St) (a':Act) (w':World) (μ':Mu),K e s'=true->AXR w0 μ' e ex->SR w0 μ' s' a' w'->Ext μ h w μ' s'.h w'->Q ex a' w'
section
variable {P:Program} {w0 w:World} {μ μ':Mu} {h h':Heap} {s:St} {a:Act}
theorem Bj.after{K:AX->St->Bool}{Q:Exit->Act->World->Prop}(hl:Bj w0 μ h w K Q){w':World}(hx:Ext μ h w μ' h' w'):Bj w0 μ' h' w' K Q:=
 fun e ex s2 a2 w2 μ2 k2 q2 r2 x2=>hl e ex s2 a2 w2 μ2 k2 q2 r2 (hx.trans x2)
theorem NY(env:Env):∀ (n i t:Nat),ay (QK env n i) t=if t<n then env (i+t) else bz
 |0,i,t=>by simp [QK,ay]
 |n+1,i,t=>by
  cases t with
  |zero=>simp [QK,ay]
  |succ t=>
   simp only [QK,ay,NY env n (i+1) t];rw [show i+1+t=i+(t+1) by omega];by_cases h:t<n
   ·rw [if_pos h,if_pos (by omega)]
   ·rw [if_neg h,if_neg (by omega)]
theorem SR.tab(hs:SR w0 μ s a w):SR w0 μ s.tab a w:=by
 refine ⟨⟨hs.env.1,fun t=>?_⟩,hs.defs,hs.iD⟩;show VR w0 μ (ay (QK s.env s.n 0) t) _;rw [NY];by_cases h:t<s.n
 ·rw [if_pos h,Nat.zero_add];exact hs.env.2 t
 ·rw [if_neg h]
  have:a.tmps.getD t undef=undef:=by
   have h1:=hs.env.1;rw [Array.getD_eq_getD_getElem?,Array.getElem?_eq_none (by omega)];rfl
  rw [this];exact VR.bz
theorem S7(hm:P.follows .mixedOrders=true){call:mU}(hc:iS P call)(rounds:Nat):∀ (c:Code) (s:St) (a:Act) (w:World) (μ:Mu) (K:AX->St->Bool) (Q:Exit->Act->World->Prop),SR w0 μ s a w ->
  Bj w0 μ s.h w K Q->evalCode P call rounds c s K=true->c.wp P Q a w:=by
 intro c
 induction c with
 |skip=>intro s a w μ K Q hs hl h;exact wp_skip (hl _ _ _ _ _ _ h .normal hs (Ext.refl _ _ _))
 |region id ops draw=>
  intro s a w μ K Q hs hl h;simp only [evalCode] at h
  cases draw with
  |true=>
   rw [if_pos rfl] at h;obtain ⟨NX,hp,h⟩:=iB h;exact S6 hm hc hp hs (fun s' a' w' μ' hK iZ hx=>hl _ _ _ _ _ _ hK .normal iZ hx) h
  |false=>
   simp only [false_eq_true,if_false] at h;refine wp_region ?_;have:=Rf (Q:=Q) hc ops.toList 0 s a w μ (fun j o hj=>by rw [Nat.zero_add];simpa using hj) hs ⟨fun s' a' w' μ' hK iZ hx=>hl _ _ _ _ _ _ hK .normal iZ hx,fun v vc s' a' w' μ' hK hv iZ hx=>hl _ _ _ _ _ _ hK (.panic v vc hv) iZ hx⟩ h;rw [range_eq_range'];simpa using this
 |seq x y ihx ihy=>
  intro s a w μ K Q hs hl h;simp only [evalCode] at h;refine wp_seq (ihx s a w μ _ _ hs (fun e ex s' a' w' μ' hK hq iZ hx=>?_) h)
  cases hq with
  |normal=>exact ihy s' a' w' μ' K Q iZ (hl.after hx) hK
  |exit id=>exact hl _ _ _ _ _ _ hK (.exit id) iZ hx
  |ret=>exact hl _ _ _ _ _ _ hK .ret iZ hx
  |panic v vc hv=>exact hl _ _ _ _ _ _ hK (.panic v vc hv) iZ hx
 |cond c x y ihx ihy=>
  intro s a w μ K Q hs hl h;simp only [evalCode] at h;have hcv:=hs.eval c;split at h
  ·rename_i e;rw [e] at hcv;exact wp_cond_true hcv.ku (ihx s a w μ K Q hs hl h)
  ·rename_i e;rw [e] at hcv;exact wp_cond_false hcv.ku (ihy s a w μ K Q hs hl h)
  ·cases h
 |block id c ih=>
  intro s a w μ K Q hs hl h;simp only [evalCode] at h;refine wp_block (ih s a w μ _ _ hs (fun e ex s' a' w' μ' hK hq iZ hx=>?_) h)
  cases hq with
  |normal=>exact hl _ _ _ _ _ _ hK .normal iZ hx
  |exit T9=>
   simp only [Exit.inBlock];simp only at hK;by_cases e:T9=id
   ·rw [if_pos e];rw [if_pos e] at hK;exact hl _ _ _ _ _ _ hK .normal iZ hx
   ·rw [if_neg e];rw [if_neg e] at hK;exact hl _ _ _ _ _ _ hK (.exit T9) iZ hx
  |ret=>exact hl _ _ _ _ _ _ hK .ret iZ hx
  |panic v vc hv=>exact hl _ _ _ _ _ _ hK (.panic v vc hv) iZ hx
 |loop c ih=>
  intro s a w μ K Q hs hl h;simp only [evalCode] at h;refine wp_loop_rounds rounds ?_
  have key:∀ (n:Nat) (s:St) (a:Act) (w:World) (μ:Mu),SR w0 μ s a w->Bj w0 μ s.h w K Q->iter (evalCode P call rounds c) K n s=true->Code.rounds P c Q n a w:=by
   intro n
   induction n with
   |zero=>intro s a w μ hs hl h;cases h
   |succ n ihn=>
    intro s a w μ hs hl h;simp only [iter] at h;rw [rounds_succ];refine ih s a w μ _ _ hs (fun e ex s' a' w' μ' hK hq iZ hx=>?_) h
    cases hq with
    |normal=>exact ihn s'.tab a' w' μ' iZ.tab (hl.after hx) hK
    |exit id=>exact hl _ _ _ _ _ _ hK (.exit id) iZ hx
    |ret=>exact hl _ _ _ _ _ _ hK .ret iZ hx
    |panic v vc hv=>exact hl _ _ _ _ _ _ hK (.panic v vc hv) iZ hx
  exact key rounds s a w μ hs hl h
 |exit id=>intro s a w μ K Q hs hl h;exact wp_exit (hl _ _ _ _ _ _ h (.exit id) hs (Ext.refl _ _ _))
 |ret=>intro s a w μ K Q hs hl h;exact wp_ret (hl _ _ _ _ _ _ h .ret hs (Ext.refl _ _ _))
 |_=>intros;rename_i h;simp [evalCode] at h
def tj(vc:Option Value):FrameMode:=match vc with
 |none=>.returning
 |some v=>.panicking [{ v,recovered:=false }]
inductive Jv (w0:World) (μ:Mu):Option AV->Option Value->Prop where
 |none:Jv w0 μ none none
 |some {v:AV} {vc:Value} (h:VR w0 μ v vc):Jv w0 μ (some v) (some vc)
def G9(P:Program)(D:uB):Prop:=
 ∀ f g,D f=some g->Enters P f/\∀ (args:List AV) (NA:Option AV) (h:Heap) (K:Option AV->Heap->Bool),g args NA h K=true ->
  ∀ (w0:World) (μ:Mu) (w:World) (vs:List Value) (pv:Option Value),Good w0 μ h w->fA w0 μ args vs->Jv w0 μ NA pv->CallsD P f vs.toArray (tj pv) w fun
   |.returned _,u',w'=>∃ w8 Qm h' μ',K w8 h'=true/\Jv w0 μ' w8 Qm/\settle u'=tj Qm/\Good w0 μ' h' w'/\Ext μ h w μ' h' w'
   |_,_,_=>False
def KC(tmps:Array Value):ResultVar->Sem Value
 |.tmp t=>pure (tmps.getD t undef)
 |.cell x t=>do loadVar t (<- asAddr (tmps.getD x undef))
theorem NZ(hs:SR w0 μ s a w){r:ResultVar}{v:AV}(h:Gs P s r=some v) :
  ∃ vc,(KC a.tmps r).run P w = .ok vc w/\VR w0 μ v vc:=by
 cases r with
 |tmp t=>
  simp only [Gs,Option.some.injEq] at h;subst h;exact ⟨_,by simp only [KC,Sem.run_pure],hs.env.2 t⟩
 |cell x t=>
  simp only [Gs] at h;split at h
  ·rename_i i hi;have hx:=hs.env.2 x;unfold au at h;split at h
   ·rename_i b off hxe;rw [hxe] at hx;split at h
    ·rename_i cs ho;generalize Y0:a.tmps.getD x undef=xv at hx;cases hx;rename_i k hk;obtain ⟨vc,h1,h2⟩:=ua hi (hs.iD.cells hk ho) h;exact ⟨vc,by simp only [KC,Y0,asAddr,Sem.run_bind,Sem.run_pure,Result.andThen_ok,h1],h2⟩
    ·cases h
   ·rename_i cs off hxe;rw [hxe] at hx;generalize Y0:a.tmps.getD x undef=xv at hx;cases hx;rename_i g o vs hgl hv G0 xM;obtain ⟨vc,h1,h2⟩:=ua hi (hs.iD.QY hgl G0 hv xM) h;exact ⟨vc,by simp only [KC,Y0,asAddr,Sem.run_bind,Sem.run_pure,Result.andThen_ok,h1],h2⟩
   ·cases h
  ·cases h
theorem EO(hs:SR w0 μ s a w):∀ (rs:List ResultVar) (vs:List AV),dz P s rs=some vs ->
  ∃ us:List Value,(rs.mapM (KC a.tmps)).run P w = .ok us w/\fA w0 μ vs us
 |[],vs,h=>by
  simp only [dz,Option.some.injEq] at h;subst h;exact ⟨[],by simp,.nil⟩
 |r :: rs,vs,h=>by
  simp only [dz] at h;split at h
  ·rename_i v vs' h1 h2;cases h;obtain ⟨vc,e1,e2⟩:=NZ hs h1;obtain ⟨us,e3,e4⟩:=EO hs rs vs' h2;exact ⟨vc :: us,by simp only [mapM_cons,Sem.run_bind,e1,Result.andThen_ok,e3,Sem.run_pure],.cons e2 e4⟩
  ·cases h
theorem EP(hs:SR w0 μ s a w){fn:Func}{vs:List AV}(h:dz P s fn.results.toList=some vs):∃ vc,(results fn a.tmps).run P w = .ok vc w/\VR w0 μ (oneOf vs) vc:=by
 obtain ⟨us,h1,h2⟩:=EO hs _ _ h
 have hm:(results fn a.tmps).run P w = .ok (if h:us.toArray.size=1 then us.toArray[0] else .tuple us.toArray) w:=by
  have hr:results fn a.tmps=(do let vs <- fn.results.mapM (KC a.tmps);pure (if h:vs.size=1 then vs[0] else .tuple vs)):=by
   unfold results;congr 2
  rw [hr,<- Array.toArray_toList (xs:=fn.results),mapM_toArray];simp only [Sem.run_bind,map_eq_pure_bind,h1,Result.andThen_ok,Sem.run_pure]
 refine ⟨_,hm,?_⟩
 cases vs with
 |nil=>obtain rfl:=h2.jE;exact fA.tuple .nil
 |cons v vs=>
  obtain ⟨u,us',rfl,h3,h4⟩:=h2.cons_inv
  cases vs with
  |nil=>obtain rfl:=h4.jE;simpa [oneOf] using h3
  |cons v2 vs=>
   obtain ⟨u2,us2,rfl,h5,h6⟩:=h4.cons_inv;rw [dif_neg (by simp)];exact fA.tuple h2
theorem qJ{D:uB}(hD:G9 P D){fn:Func}{μb:Mu}{hb:Heap}{wb:World}{K:Out->Heap->Bool}:∀ (ds:List uV) (Ds:List Deferred) (NA:Option AV) (pv:Option Value) (s:St) (a:Act) (w:World) (μ:Mu),
  G5 w0 μ s.env s.n a.tmps->Cf w0 μ ds Ds->Good w0 μ s.h w->Jv w0 μ NA pv->Ext μb hb wb μ s.h w->leave P D fn.results.toList K ds NA s=true ->
  Leaves P fn a.tmps (Dm w0 μb hb wb K) Ds (tj pv) w
 |[],Ds,NA,pv,s,a,w,μ,he,hd,hg,hp,hx,h=>by
  cases hd;have hs:SR w0 μ ⟨s.env,s.n,[],s.h⟩ ⟨a.tmps,[]⟩ w:=⟨he,.nil,hg⟩
  cases hp with
  |none=>
   simp only [leave] at h;obtain ⟨vs,h1,h2⟩:=iB h
   have h1':dz P ⟨s.env,s.n,[],s.h⟩ fn.results.toList=some vs:=by
    rw [<- h1]
    have:∀ rs:List ResultVar,dz P ⟨s.env,s.n,[],s.h⟩ rs=dz P s rs:=by
     intro rs
     induction rs with
     |nil=>rfl
     |cons r rs ih=>simp only [dz,ih];cases r<;>rfl
    exact this _
   obtain ⟨vc,h3,h4⟩:=EP hs h1';exact ⟨vc,h3,_,_,_,h2,h4,hg,hx⟩
  |some hv=>
   simp only [leave] at h;exact ⟨_,_,_,_,h,rfl,hv,hg,hx⟩
 |d :: ds,Ds,NA,pv,s,a,w,μ,he,hd,hg,hp,hx,h=>by
  cases hd with
  |cons hdr ht=>
   obtain ⟨cap,args,rfl,r1,r2⟩:=hdr;simp only [leave] at h;split at h
   ·rename_i g S4;obtain ⟨uO,ady⟩:=hD d.f g S4;have hcd:=ady _ _ _ _ h w0 μ w (args++cap) pv hg (r1.append r2) hp;refine ⟨by cases pv<;>simp [tj],.func d.f,cap.toArray,d.f,(args++cap).toArray,rfl,?_,?_⟩
    ·have e:args.toArray++cap.toArray=(args++cap).toArray:=(by simp);simp only [invoke,e,Cg uO]
    ·refine CallsD.mono hcd fun e u' w' hR=>?_
     cases e with
     |returned v=>
      obtain ⟨w8,Qm,h',μ',hK,xb,hu,hg2,fK⟩:=hR;simp only;rw [hu];exact qJ hD ds _ w8 Qm ⟨s.env,s.n,s.defs,h'⟩ a w' μ' (he.mono fK.mono) (ht.mono fK.mono) hg2 xb (hx.trans fK) hK
     |panicked c=>exact hR.elim
     |outgrown=>exact hR.elim
   ·cases h
theorem Dq{args:List AV}{vs:List Value}(h:fA w0 μ args vs){n:Nat}(hn:args.length<=n):G5 w0 μ (ay args) n (vs.toArray++Array.replicate (n-vs.toArray.size) undef):=by
 have hl:=h.len;refine ⟨by simp;omega,fun t=>?_⟩
 have key:∀ (args:List AV) (t:Nat),ay args t=(args[t]?).getD bz:=by
  intro args
  induction args with
  |nil=>intro t;simp [ay]
  |cons x xs ih=>
   intro t
   cases t with
   |zero=>simp [ay]
   |succ t=>simp [ay,ih]
 rw [key];by_cases ht:t<args.length
 ·have h1:args[t]?=some args[t]:=jQ ht;obtain ⟨v,h2,h3⟩:=h.get h1;rw [h1]
  have:(vs.toArray++Array.replicate (n-vs.toArray.size) undef).getD t undef=v:=by
   rw [Array.getD_eq_getD_getElem?,Array.getElem?_append_left (by simp;omega)];simp [h2]
  rw [this];exact h3
 ·rw [getElem?_eq_none (by omega)]
  have:(vs.toArray++Array.replicate (n-vs.toArray.size) undef).getD t undef=undef:=by
   rw [Array.getD_eq_getD_getElem?,Array.getElem?_append_right (by simp;omega),Array.getElem?_replicate];split<;>rfl
  rw [this];exact VR.bz
def kJ(P:Program)(F:B7):Prop:=
 ∀ f g,F f=some g->∀ args h K,g args h K=true->Enters P f/\∀ (w0:World) (μ:Mu) (w:World) (vs:List Value),Good w0 μ h w->fA w0 μ args vs->Calls P f vs.toArray w (Dm w0 μ h w K)
theorem nw(hm:P.follows .mixedOrders=true){F:B7}{D:uB}(hF:kJ P F)(hD:G9 P D):∀ n,iS P (cq P F D n)
 |0=>fun f args h K hh=>by cases hh
 |n+1=>fun f args h K hh=>by
  simp only [cq] at hh;split at hh
  ·rename_i g hg;exact hF f g hg args h K hh
  ·split at hh
   ·cases hh
   ·rename_i fn VS;split at hh
    ·rename_i G1;simp only [and_eq_true,decide_eq_true_eq,bne_iff_ne,ne_eq] at G1;unfold Wb at hh;split at hh
     ·cases hh
     ·rename_i c hb;refine ⟨⟨fn,c,VS,hb,G1.2⟩,fun w0 μ w vs hg hv=>?_⟩;refine calls_of_wp_defers VS hb ?_;refine S7 (w0:=w0) hm (nw hm hF hD n) n c ⟨ay args,fn.ntmps,[],h⟩ _ w μ _ _ ⟨Dq hv G1.1,.nil,hg⟩ (fun e ex s' a' w' μ' hK hq iZ hx=>?_) hh
      cases hq with
      |normal=>exact qJ hD _ _ none none s' a' w' μ' iZ.env iZ.defs iZ.iD .none hx hK
      |ret=>exact qJ hD _ _ none none s' a' w' μ' iZ.env iZ.defs iZ.iD .none hx hK
      |exit id=>cases hK
      |panic v vc hv=>exact qJ hD _ _ (some v) (some vc) s' a' w' μ' iZ.env iZ.defs iZ.iD (.some hv) hx hK
    ·cases hh
end
end Go.AM
namespace Go.AM
open List Nat Bool Option
open Go Go.RowKit
def Zg:List Entry->List Entry->Bool
 |[],[]=>true
 |a :: as,b :: bs=>AV.beq a.1 b.1&&(AV.beq a.2.1 b.2.1&&(Nat.beq a.2.2 b.2.2&&Zg as bs))
 |_,_=>false
def Heap.Clean(h:Heap):Prop:=∀ b,h.next<=b->h.get b=none
theorem Heap.yf:Heap.empty.Clean:=fun b _=>Trie.GO b
theorem Heap.N7{h:Heap}(hc:h.Clean)(o:mI):(h.alloc o).Clean:=fun b hb=>by
 simp at hb;rw [Heap.aN,if_neg (by omega)];exact hc b (by omega)
section
variable {P:Program} {w0 w:World} {μ μ':Mu} {h h' h1:Heap}
def Mu.bare(μ:Mu):Mu:=⟨fun _=>Option.none,μ.z⟩
def Mu.Ca(μ μ':Mu):Mu:=⟨μ.m,μ'.z⟩
theorem Good.nothing(hg:Good w0 μ h w):Good w0 μ.bare Heap.empty w:=
 ⟨hg.below,Heap.yf,by simp [Mu.bare],by simp [Mu.bare],hg.Ad,by simp [Mu.bare],by simp [Mu.bare],by simp [Mu.bare]⟩
theorem Good.adz(hg:Good w0 μ h w){w':World}(S4:Good w0 μ' h' w')(hx:Ext μ.bare Heap.empty w μ' h' w'):Good w0 (μ.Ca μ') h w'/\Ext μ h w (μ.Ca μ') h w':=by
 have hf:∀ k,k<w.heap.size->w'.heap[k]?=w.heap[k]?:=fun k hk=>hx.frame k hk (by simp [Mu.bare]);refine ⟨⟨S4.below,hg.clean,hg.fresh,fun b k hb=>?_,S4.Ad,fun b k hb=>?_,fun b k o hb ho=>?_,hg.inj⟩,⟨⟨fun _ _ h=>h,hx.mono.Ad⟩,fun k hk _=>hf k hk,fun _ _ h=>.inl h,hx.size,dK _,fun _ _ _=>rfl,fun _ _ h=>.inl h,hx.Ca⟩⟩
 ·have:=hg.own b k hb;have:=hx.size;omega
 ·show μ'.z k.c=none
  cases hz:μ'.z k.c with
  |none=>rfl
  |some vs=>
   rcases hx.Ca _ _ hz with h1|h1
   ·have h1':μ.z k.c=some vs:=h1;rw [hg.apart b k hb] at h1';cases h1'
   ·have:=(hg.own b k hb).2;omega
 ·have gN:μ b=some k:=hb;rw [hf _ (hg.own b k gN).2];exact rZ.mono (μ:=μ) (μ':=μ.Ca μ') ⟨fun _ _ h=>h,hx.mono.Ad⟩ (hg.obj b k o gN ho)
def ach(b:Bool):List AV->Heap->(Out->Heap->Bool)->Bool:=fun args h K=>
 match args with
 |[]=>K (.ret (.bool b)) h
 |_=>false
def aci(b:Bool):Out->Heap->Bool
 |.ret v,_=>AV.beq v (.bool b)
 |_,_=>false
theorem N8{call:mU}(hs:iS P call){f:FuncId}{b:Bool}(he:call f [] Heap.empty (aci b)=true)(args:List AV)(h:Heap)(K:Out->Heap->Bool)(hK:ach b args h K=true) :
  Enters P f/\∀ (w0:World) (μ:Mu) (w:World) (vs:List Value),Good w0 μ h w->fA w0 μ args vs->Calls P f vs.toArray w (Dm w0 μ h w K):=by
 obtain ⟨uO,hc⟩:=hs _ _ _ _ he;refine ⟨uO,fun w0 μ w vs hg hv=>?_⟩;unfold ach at hK;split at hK
 ·obtain rfl:=hv.jE;refine Calls.mono (hc w0 _ w [] hg.nothing .nil) fun e w' hR=>?_
  cases e with
  |returned vc=>
   obtain ⟨v,h',μ',k1,k2,k3,k4⟩:=hR;obtain rfl:=AV.beq_eq _ _ k1;obtain ⟨g1,g2⟩:=hg.adz k3 k4;rw [k2.ku];exact ⟨_,h,μ.Ca μ',hK,.bool b,g1,g2⟩
  |panicked c=>
   obtain ⟨v,vc,h',μ',k1,_⟩:=hR;cases k1
  |outgrown=>exact hR.elim
 ·cases hK
end
end Go.AM
namespace Go.AM
open List Nat Bool Option
open Go Go.RowKit
section
variable {w0:World} {μ:Mu} {ρ:Nat->Nat}
end
mutual
theorem AV.beq_refl:∀ x:AV,AV.beq x x=true
 |.undef=>rfl
 |.bool a=>by simp [AV.beq]
 |.int k a=>by simp [AV.beq]
 |.str a=>by simp [AV.beq]
 |.eZ=>rfl
 |.ptr a i=>by simp [AV.beq]
 |.dL a i=>by simp [AV.beq,AV.qK a]
 |.ai=>rfl
 |.slice b i l s=>by simp [AV.beq]
 |.ax a i l s=>by simp [AV.beq,AV.qK a]
 |.mH=>rfl
 |.map a=>by simp [AV.beq]
 |.rP=>rfl
 |.func f a b=>by simp [AV.beq,AV.qK a,AV.qK b]
 |.uy=>rfl
 |.iface t v=>by simp [AV.beq,AV.beq_refl v]
 |.agg a=>by simp [AV.beq,AV.qK a]
 |.tuple a=>by simp [AV.beq,AV.qK a]
theorem AV.qK:∀ x:List AV,AV.B0 x x=true
 |[]=>rfl
 |a :: l=>by simp [AV.B0,AV.beq_refl a,AV.qK l]
end
theorem Co:∀ n:Nat,Nat.beq n n=true
 |0=>rfl
 |n+1=>Co n
end Go.AM
namespace Go.AM
open List Nat Bool Option
def nx(g1 g2:List AV->Heap->(Out->Heap->Bool)->Bool):List AV->Heap->(Out->Heap->Bool)->Bool:=fun args h K=>g1 args h K||g2 args h K
theorem cN{g1 g2:List AV->Heap->(Out->Heap->Bool)->Bool}{args:List AV}{h:Heap}{K:Out->Heap->Bool}(hK:nx g1 g2 args h K=true):g1 args h K=true\/g2 args h K=true:=by
 simpa [nx] using hK
end Go.AM
namespace Go.AM
open List Nat Bool Option
open Go Go.RowKit
noncomputable section
variable {K:Out->Heap->Bool} {args:List AV} {h:Heap} {f:FuncId} {env:Env} {P:Program}
def Sem(P:Program)(f:FuncId)(args:List AV)(h:Heap)(K:Out->Heap->Bool):Prop:=
 Enters P f/\∀ (w0:World) (μ:Mu) (w:World) (vs:List Value),Good w0 μ h w->fA w0 μ args vs->Calls P f vs.toArray w (Dm w0 μ h w K)
theorem Dm.mono{w0 w:World}{μ:Mu}{K':Out->Heap->Bool}(hk:∀ o h',K o h'=true->K' o h'=true){e:Ending}{w':World}(hr:Dm w0 μ h w K e w'):Dm w0 μ h w K' e w':=by
 cases e with
 |returned vc=>obtain ⟨v,h',μ',k1,k2⟩:=hr;exact ⟨v,h',μ',hk _ _ k1,k2⟩
 |panicked c=>obtain ⟨v,vc,h',μ',k1,k2⟩:=hr;exact ⟨v,vc,h',μ',hk _ _ k1,k2⟩
 |outgrown=>exact hr.elim
theorem Sem.mono{P:Program}{f:FuncId}{args:List AV}{h:Heap}{K K':Out->Heap->Bool}(hs:Sem P f args h K)(hk:∀ o h',K o h'=true->K' o h'=true):Sem P f args h K':=
 ⟨hs.1,fun w0 μ w vs hg hv=>(hs.2 w0 μ w vs hg hv).mono fun _ _ hr=>hr.mono hk⟩
def an(P:Program):mU:=fun f args h K=>@decide (Sem P f args h K) (Classical.propDecidable _)
theorem AR(P:Program):iS P (an P):=fun f args h K hh=>@of_decide_eq_true _ (Classical.propDecidable _) hh
theorem af(hs:Sem P f args h K):an P f args h K=true:=@_root_.decide_eq_true _ (Classical.propDecidable _) hs
theorem iS.sem{call:mU}(hc:iS P call)(hh:call f args h K=true):Sem P f args h K:=hc f args h K hh
theorem kJ.sem{F:B7}(hF:kJ P F){g:List AV->Heap->(Out->Heap->Bool)->Bool}(hg:F f=some g)(hh:g args h K=true):Sem P f args h K:=hF f g hg args h K hh
def yes(p:Prop):Bool:=@decide p (Classical.propDecidable _)
theorem bO{p:Prop}:yes p=true↔p:=@decide_eq_true_iff p (Classical.propDecidable _)
theorem S8:∃ r:(St->(AX->St->Bool)->Bool)->St->(AX->St->Bool)->Bool,∀ f s K,r f s K=f s K:=⟨fun f s K=>f s K,fun _ _ _=>rfl⟩
def Rm:(St->(AX->St->Bool)->Bool)->St->(AX->St->Bool)->Bool:=Classical.choose S8
theorem zC(f:St->(AX->St->Bool)->Bool)(s:St)(K:AX->St->Bool):Rm f s K=f s K:=Classical.choose_spec S8 f s K
def jG(j:Bool)(b:St->(AX->St->Bool)->Bool)(K:AX->St->Bool):AX->St->Bool
 |.normal,s'=>@Bool.rec (fun _=>Bool) (b s' K) (Rm b s' K) j
 |.exit id,s'=>K (.exit id) s'
 |.ret,s'=>K .ret s'
 |.panic v,s'=>K (.panic v) s'
theorem N9(j:Bool)(b:St->(AX->St->Bool)->Bool)(K:AX->St->Bool)(s:St):jG j b K .normal s=b s K:=by
 cases j
 ·rfl
 ·exact zC b s K
def cE(id:Nat)(K:AX->St->Bool):AX->St->Bool
 |.normal,s'=>K .normal s'
 |.exit T9,s'=>@Bool.rec (fun _=>Bool) (K (.exit T9) s') (K .normal s') (Nat.beq T9 id)
 |.ret,s'=>K .ret s'
 |.panic v,s'=>K (.panic v) s'
def aq(x:AV)(a b:Bool):Bool:=
 match x with
 |.bool t=>@Bool.rec (fun _=>Bool) b a t
 |_=>false
def KD(I:Nat->St->Prop)(n:Nat)(K:AX->St->Bool):AX->St->Bool
 |.normal,s'=>yes (∃ m,m<n/\I m s')
 |.exit id,s'=>K (.exit id) s'
 |.ret,s'=>K .ret s'
 |.panic v,s'=>K (.panic v) s'
def bJ(f:St->(AX->St->Bool)->Bool)(s:St)(K:AX->St->Bool):Bool:=
 yes (∃ I:Nat->St->Prop,(∃ n,I n s)/\∀ n s',I n s'->f s' (KD I n K)=true)
def S9(ops:List Oper)(j:Nat):Option Tmp:=match ops[j]? with|some g=>g.dst|none=>none
def WB(j:Nat):List Nat->Bool
 |[]=>false
 |k :: ks=>@Bool.rec (fun _=>Bool) (WB j ks) true (Nat.beq j k)
def mY(P:Program)(call:mU)(ops:List Oper):List Oper->Nat->List Nat->St->(RS->Bool)->Bool
 |[],_,_,s,K=>K (.ok s)
 |o :: rest,i,sk,⟨env,n,defs,h⟩,K=>
  match o.guard with
  |none=>lX o.op P call env defs h fun
   |.ok v defs h=>kf env n o.dst v fun env=>mY P call ops rest (i+1) sk ⟨env,n,defs,h⟩ K
   |.panic v h=>K (.panic v ⟨env,n,defs,h⟩)
  |some (j,want)=>match S9 ops j with
   |none=>false
   |some d=>@Bool.rec (fun _=>Bool)
    (aq (env d)
     (@Bool.rec (fun _=>Bool) (kf (cF env d (.bool true)) n o.dst bz fun env=>mY P call ops rest (i+1) (i :: sk) ⟨env,n,defs,h⟩ K)
      (lX o.op P call (cF env d (.bool true)) defs h fun
       |.ok v defs h=>kf (cF env d (.bool true)) n o.dst v fun env=>mY P call ops rest (i+1) sk ⟨env,n,defs,h⟩ K
       |.panic v h=>K (.panic v ⟨cF env d (.bool true),n,defs,h⟩)) want)
     (@Bool.rec (fun _=>Bool) (lX o.op P call (cF env d (.bool false)) defs h fun
       |.ok v defs h=>kf (cF env d (.bool false)) n o.dst v fun env=>mY P call ops rest (i+1) sk ⟨env,n,defs,h⟩ K
       |.panic v h=>K (.panic v ⟨cF env d (.bool false),n,defs,h⟩))
      (kf (cF env d (.bool false)) n o.dst bz fun env=>mY P call ops rest (i+1) (i :: sk) ⟨env,n,defs,h⟩ K) want))
    (match env d with
     |.tuple _=>kf env n o.dst bz fun env=>mY P call ops rest (i+1) (i :: sk) ⟨env,n,defs,h⟩ K
     |_=>false) (WB j sk)
def eH(P:Program)(call:mU)(ops:List Oper)(ms:List Nat):List (Nat×Oper)->List Read->List Nat->St->(St->Bool)->Bool
 |[],_,_,s,K=>K s
 |p :: rest,lg,sk,⟨env,n,defs,h⟩,K=>
  @Option.rec (Nat×Bool) (fun _=>Bool)
   (match gZ p.2.op with
   |.pure=>jz p.2.op P (evalArg env) h fun v _=>kf env n p.2.dst v fun fY=>eH P call ops ms rest lg sk ⟨fY,n,defs,h⟩ K
   |.read=>jz p.2.op P (evalArg env) h fun v _=>kf env n p.2.dst v fun fY=>eH P call ops ms rest (⟨p.1,p.2.op,env,v⟩ :: lg) sk ⟨fY,n,defs,h⟩ K
   |.alloc=>jz p.2.op P (evalArg env) h fun v h'=>kf env n p.2.dst v fun fY=>eH P call ops ms rest lg sk ⟨fY,n,defs,h'⟩ K
   |.Qh=>
    lX p.2.op P call env defs h fun
     |.ok v mV h'=>if mE P ms p.1 h' lg then kf env n p.2.dst v fun fY=>eH P call ops ms rest lg sk ⟨fY,n,mV,h'⟩ K else false
     |.panic _ _=>false)
   (fun g=>match S9 ops g.1 with
    |none=>false
    |some d=>@Bool.rec (fun _=>Bool)
     (aq (env d)
      (@Bool.rec (fun _=>Bool) (kf (cF env d (.bool true)) n p.2.dst bz fun fY=>eH P call ops ms rest lg (p.1 :: sk) ⟨fY,n,defs,h⟩ K)
       (match gZ p.2.op with
       |.pure=>jz p.2.op P (evalArg (cF env d (.bool true))) h fun v _=>kf (cF env d (.bool true)) n p.2.dst v fun fY=>eH P call ops ms rest lg sk ⟨fY,n,defs,h⟩ K
       |.read=>jz p.2.op P (evalArg (cF env d (.bool true))) h fun v _=>kf (cF env d (.bool true)) n p.2.dst v fun fY=>eH P call ops ms rest (⟨p.1,p.2.op,cF env d (.bool true),v⟩ :: lg) sk ⟨fY,n,defs,h⟩ K
       |.alloc=>jz p.2.op P (evalArg (cF env d (.bool true))) h fun v h'=>kf (cF env d (.bool true)) n p.2.dst v fun fY=>eH P call ops ms rest lg sk ⟨fY,n,defs,h'⟩ K
       |.Qh=>
        lX p.2.op P call (cF env d (.bool true)) defs h fun
         |.ok v mV h'=>if mE P ms p.1 h' lg then kf (cF env d (.bool true)) n p.2.dst v fun fY=>eH P call ops ms rest lg sk ⟨fY,n,mV,h'⟩ K else false
         |.panic _ _=>false) g.2)
      (@Bool.rec (fun _=>Bool)
       (match gZ p.2.op with
       |.pure=>jz p.2.op P (evalArg (cF env d (.bool false))) h fun v _=>kf (cF env d (.bool false)) n p.2.dst v fun fY=>eH P call ops ms rest lg sk ⟨fY,n,defs,h⟩ K
       |.read=>jz p.2.op P (evalArg (cF env d (.bool false))) h fun v _=>kf (cF env d (.bool false)) n p.2.dst v fun fY=>eH P call ops ms rest (⟨p.1,p.2.op,cF env d (.bool false),v⟩ :: lg) sk ⟨fY,n,defs,h⟩ K
       |.alloc=>jz p.2.op P (evalArg (cF env d (.bool false))) h fun v h'=>kf (cF env d (.bool false)) n p.2.dst v fun fY=>eH P call ops ms rest lg sk ⟨fY,n,defs,h'⟩ K
       |.Qh=>
        lX p.2.op P call (cF env d (.bool false)) defs h fun
         |.ok v mV h'=>if mE P ms p.1 h' lg then kf (cF env d (.bool false)) n p.2.dst v fun fY=>eH P call ops ms rest lg sk ⟨fY,n,mV,h'⟩ K else false
         |.panic _ _=>false)
       (kf (cF env d (.bool false)) n p.2.dst bz fun fY=>eH P call ops ms rest lg (p.1 :: sk) ⟨fY,n,defs,h⟩ K) g.2))
     (match env d with
      |.tuple _=>kf env n p.2.dst bz fun fY=>eH P call ops ms rest lg (p.1 :: sk) ⟨fY,n,defs,h⟩ K
      |_=>false) (WB g.1 sk)) p.2.guard
def alO(K:AX->St->Bool):RS->Bool
 |.ok s'=>K .normal s'
 |.panic v s'=>K (.panic v) s'
def tq(P:Program)(call:mU):Code->St->(AX->St->Bool)->Bool
 |.skip,s,K=>K .normal s
 |.region _ ops draw,s,K=>
  @Bool.rec (fun _=>Bool) (mY P call ops.toList ops.toList 0 [] s (alO K))
   (aa (Nz ops.toList) fun p=>eH P call ops.toList p.ms p.L [] [] s fun s'=>K .normal s') draw
 |.seq a b,s,K=>tq P call a s (jG (adf a b) (tq P call b) K)
 |.cond c a b,s,K=>aq (evalArg s.env c) (tq P call a s K) (tq P call b s K)
 |.block id c,s,K=>tq P call c s (cE id K)
 |.loop c,s,K=>bJ (tq P call c) s K
 |.exit id,s,K=>K (.exit id) s
 |.ret,s,K=>K .ret s
 |_,_,_=>false
theorem zD{d:Nat}{v:AV}(h:env d=v):cF env d v=env:=by
 funext t;rw [r8];by_cases e:t=d
 ·rw [if_pos e,e,h]
 ·rw [if_neg e]
theorem KE{x:AV}{a b:Bool}(h:aq x a b=true):(x = .bool true/\a=true)\/(x = .bool false/\b=true):=by
 unfold aq at h;split at h
 ·rename_i t;cases t
  ·exact .inr ⟨rfl,h⟩
  ·exact .inl ⟨rfl,h⟩
 ·cases h
section
variable {P:Program} {w0 w:World} {μ μ':Mu} {h h':Heap} {s:St} {a:Act}
theorem He{ops:List Oper}{o:Oper}{j:Nat}{want:Bool}{d:Tmp}(hg:o.guard=some (j,want))(hd:S9 ops j=some d) :
  kZ ops o env=(match env d with|.bool b=>some (b==want)|.tuple _=>some false|_=>none):=by
 unfold kZ S9 at *;rw [hg];simp only;split at hd
 ·rename_i g hj;rw [hj];simp only [hd];rfl
 ·cases hd
theorem zE{ρ:Operand->AV}{op:Op}{hp:Heap}{K1 K2:AV->Heap->Bool}(hk:∀ v h',K1 v h'=true->K2 v h'=true)(hh:jz op P ρ hp K1=true):jz op P ρ hp K2=true:=by
 have val:∀ {o:Option AV},nT hp K1 o=true->nT hp K2 o=true:=by
  intro o h;cases o with
  |none=>exact h
  |some a=>exact hk _ _ h
 have both:∀ {o:Option (AV×Heap)},AL K1 o=true->AL K2 o=true:=by
  intro o h;cases o with
  |none=>exact h
  |some a=>exact hk _ _ h
 have heap:∀ {o:Option Heap},Ey K1 o=true->Ey K2 o=true:=by
  intro o h;cases o with
  |none=>exact h
  |some a=>exact hk _ _ h
 have bind:∀ {α:Type} {o:Option α} {f g:α->Bool},(∀ a,f a=true->g a=true)->aa o f=true->aa o g=true:=by
  intro α o f g hfg h;cases o with
  |none=>exact h
  |some a=>exact hfg _ h
 cases op<;>simp only [jz] at hh ⊢<;>try (first|exact hk _ _ hh|exact val hh|exact both hh|exact heap hh|exact bind (fun _ h=>val h) hh|exact bind (fun _ h=>both h) hh|exact bind (fun _ h=>heap h) hh|exact bind (fun _ h=>hk _ _ h) hh|(exfalso;simp at hh;done))
 case buildSlice t n ps=>unfold vI at hh ⊢;exact bind (fun _ h=>bind (fun _ h=>hk _ _ h) h) hh
 case binOp o t x y u=>
  unfold V9 at hh ⊢;cases o<;>simp only at hh ⊢<;>first|exact val hh|exact bind (fun _ h=>val h) hh
 case makeFunc fn f c=>
  unfold GL at hh ⊢;cases fn<;>simp only at hh ⊢<;>first|exact hk _ _ hh|exact hh
 case makeMap t r=>
  unfold Kr at hh ⊢;cases r<;>simp only at hh ⊢<;>first|exact hk _ _ hh|exact hh
 case slice t x lo hi mx=>
  unfold LU at hh ⊢;cases mx<;>simp only at hh ⊢<;>first|exact bind (fun _ h=>val h) hh|exact hh
 case call c=>
  obtain ⟨Dh,args,ts⟩:=c;unfold xT at hh ⊢
  cases Dh with
  |value f=>exact hh
  |invoke r m=>exact hh
  |builtin b=>
   simp only at hh ⊢;cases b<;>simp only [Ks,QI,false_eq_true] at hh ⊢
   case append=>
    unfold De at hh ⊢;split at hh
    ·exact bind (fun _ h=>both h) hh
    ·exact hh
   case copy=>
    unfold LV at hh ⊢;split at hh
    ·exact bind (fun _ h=>both h) hh
    ·exact hh
   case len=>
    unfold QH at hh ⊢;split at hh
    ·exact bind (fun _ h=>val h) hh
    ·exact hh
   case delete=>
    unfold Df at hh ⊢;split at hh
    ·exact bind (fun _ h=>heap h) hh
    ·exact hh
   case min=>
    unfold zn at hh ⊢;split at hh
    ·exact val hh
    ·exact hh
   case max=>
    unfold zn at hh ⊢;split at hh
    ·exact val hh
    ·exact hh
theorem Oa{op:Op}{defs:List uV}{hp:Heap}{K1 K2:R->Bool}(hk:∀ r,K1 r=true->K2 r=true)(hh:lX op P (an P) env defs hp K1=true):lX op P (an P) env defs hp K2=true:=by
 have plain:∀ {op:Op},tZ op P (an P) env defs hp K1=true->tZ op P (an P) env defs hp K2=true:=fun h=>zE (fun _ _ h=>hk _ h) h;cases op<;>simp only [lX] at hh ⊢<;>try exact plain hh
 case call c=>
  obtain ⟨Dh,args,ts⟩:=c
  cases Dh with
  |builtin b=>exact plain hh
  |invoke r m=>exact plain hh
  |value f=>
   simp only [Ba,Gm] at hh ⊢;split at hh
   ·refine af ((AR P).sem hh |>.mono fun o h' h=>?_);cases o<;>exact hk _ h
   ·exact hh
 case defer c=>
  obtain ⟨Dh,args,ts⟩:=c
  cases Dh with
  |builtin b=>exact hh
  |invoke r m=>exact hh
  |value f=>
   simp only [B4] at hh ⊢;split at hh
   ·exact hk _ hh
   ·exact hh
 case panic x=>
  simp only [B5] at hh ⊢;split at hh
  ·exact hk _ hh
  ·exact hh
 case next x b=>
  simp only [LW] at hh ⊢;generalize B3 b (evalArg env x) hp=o at hh ⊢
  cases o with
  |none=>exact hh
  |some L=>
   simp only [aa] at hh ⊢
   induction L with
   |nil=>rfl
   |cons p L ih=>
    simp only [pI,and_eq_true] at hh ⊢;exact ⟨hk _ hh.1,ih hh.2⟩
theorem uZ{n:Nat}{dst:Option Tmp}{v:AV}{k1 k2:Env->Bool}(hk:∀ e,k1 e=true->k2 e=true)(hh:kf env n dst v k1=true):kf env n dst v k2=true:=by
 cases dst with
 |none=>exact hk _ hh
 |some d=>
  simp only [kf] at hh ⊢
  cases hb:ble (d+1) n with
  |false=>rw [hb] at hh;cases hh
  |true=>rw [hb] at hh;exact hk _ hh
theorem ny{ops:List Oper}{ms:List Nat}{K:St->Bool}:∀ (L:List (Nat×Oper)) (lg:List Read) (sk:List Nat) (s:St),eH P (an P) ops ms L lg sk s K=true->iA P (an P) ops ms L lg s K=true
 |[],lg,sk,s,hh=>hh
 |p :: rest,lg,sk,⟨env,n,defs,hp⟩,hh=>by
  have Rn:(match gZ p.2.op with
   |.pure=>jz p.2.op P (evalArg env) hp fun v _=>kf env n p.2.dst v fun fY=>eH P (an P) ops ms rest lg sk ⟨fY,n,defs,hp⟩ K
   |.read=>jz p.2.op P (evalArg env) hp fun v _=>kf env n p.2.dst v fun fY=>eH P (an P) ops ms rest (⟨p.1,p.2.op,env,v⟩ :: lg) sk ⟨fY,n,defs,hp⟩ K
   |.alloc=>jz p.2.op P (evalArg env) hp fun v h'=>kf env n p.2.dst v fun fY=>eH P (an P) ops ms rest lg sk ⟨fY,n,defs,h'⟩ K
   |.Qh=>
    lX p.2.op P (an P) env defs hp fun
     |.ok v mV h'=>if mE P ms p.1 h' lg then kf env n p.2.dst v fun fY=>eH P (an P) ops ms rest lg sk ⟨fY,n,mV,h'⟩ K else false
     |.panic _ _=>false)=true->(match gZ p.2.op with
   |.pure=>jz p.2.op P (evalArg env) hp fun v _=>kf env n p.2.dst v fun fY=>iA P (an P) ops ms rest lg ⟨fY,n,defs,hp⟩ K
   |.read=>jz p.2.op P (evalArg env) hp fun v _=>kf env n p.2.dst v fun fY=>iA P (an P) ops ms rest (⟨p.1,p.2.op,env,v⟩ :: lg) ⟨fY,n,defs,hp⟩ K
   |.alloc=>jz p.2.op P (evalArg env) hp fun v h'=>kf env n p.2.dst v fun fY=>iA P (an P) ops ms rest lg ⟨fY,n,defs,h'⟩ K
   |.Qh=>
    lX p.2.op P (an P) env defs hp fun
     |.ok v mV h'=>if mE P ms p.1 h' lg then kf env n p.2.dst v fun fY=>iA P (an P) ops ms rest lg ⟨fY,n,mV,h'⟩ K else false
     |.panic _ _=>false)=true:=by
   intro h;cases hk:gZ p.2.op<;>rw [hk] at h<;>simp only at h ⊢
   ·exact zE (fun v h' h=>uZ (fun e h=>ny rest _ _ _ h) h) h
   ·exact zE (fun v h' h=>uZ (fun e h=>ny rest _ _ _ h) h) h
   ·exact zE (fun v h' h=>uZ (fun e h=>ny rest _ _ _ h) h) h
   ·refine Oa (fun r h=>?_) h
    cases r with
    |ok v mV h'=>
     simp only at h ⊢;split at h
     ·rename_i hs;rw [if_pos hs];exact uZ (fun e h=>ny rest _ _ _ h) h
     ·cases h
    |panic v h'=>cases h
  have Hf:∀ sk',(kf env n p.2.dst bz fun fY=>eH P (an P) ops ms rest lg sk' ⟨fY,n,defs,hp⟩ K)=true->(kf env n p.2.dst bz fun fY=>iA P (an P) ops ms rest lg ⟨fY,n,defs,hp⟩ K)=true:=
   fun sk' h=>uZ (fun e h=>ny rest _ _ _ h) h
  simp only [eH] at hh;simp only [iA]
  cases hg:p.2.guard with
  |none=>
   rw [hg] at hh;have hw:kZ ops p.2 env=some true:=by unfold kZ;rw [hg]
   rw [hw];exact Rn hh
  |some g=>
   obtain ⟨j,want⟩:=g;rw [hg] at hh;simp only at hh;split at hh
   ·cases hh
   ·rename_i d hd;have Ro:=He (env:=env) hg hd
    cases hm:WB j sk with
    |true=>
     rw [hm] at hh;simp only at hh;split at hh
     ·rename_i vs hv;rw [hv] at Ro;rw [Ro];exact Hf _ hh
     ·cases hh
    |false=>
     rw [hm] at hh;simp only at hh;rcases KE hh with ⟨hv,hh⟩|⟨hv,hh⟩
     ·rw [hv] at Ro;rw [zD hv] at hh;rw [Ro]
      cases want with
      |true=>exact Rn hh
      |false=>exact Hf _ hh
     ·rw [hv] at Ro;rw [zD hv] at hh;rw [Ro]
      cases want with
      |true=>exact Hf _ hh
      |false=>exact Rn hh
theorem Mf{call:mU}(hc:iS P call){ops:Array Oper}{K:RS->Bool}{Q:Exit->Act->World->Prop}:∀ (l:List Oper) (i:Nat) (sk:List Nat) (s:St) (a:Act) (w:World) (μ:Mu),(∀ j o,l[j]?=some o->ops[i+j]?=some o) ->
  SR w0 μ s a w->(hl:Dp w0 μ s.h w K Q)->mY P call ops.toList l i sk s K=true->wpOps P ops Q (range' i l.length) a w
 |[],i,sk,s,a,w,μ,hi,hs,hl,h=>by
  simp only [length_nil,range'_zero,wpOps];exact hl.ok _ _ _ _ h hs (Ext.refl _ _ _)
 |o :: rest,i,sk,s,a,w,μ,hi,hs,hl,h=>by
  have VQ:ops[i]?=some o:=by simpa using hi 0 o rfl
  obtain ⟨env,n,defs,hp⟩:=s;simp only [length_cons,range'_succ,wpOps,VQ]
  have Ae:∀ j o',rest[j]?=some o'->ops[i+1+j]?=some o':=fun j o' hj=>by
   have:=hi (j+1) o' (by simpa using hj)
   rwa [show i+1+j=i+(j+1) by omega]
  have Rn:kZ ops.toList o env=some true->(lX o.op P call env defs hp fun
       |.ok v defs h=>kf env n o.dst v fun env=>mY P call ops.toList rest (i+1) sk ⟨env,n,defs,h⟩ K
       |.panic v h=>K (.panic v ⟨env,n,defs,h⟩))=true ->
    (if Region.wanted o (yielded ops a.tmps) then o.wp P a w (wpOps P ops Q (range' (i+1) rest.length)) Q\/(o.asks P a w/\LetsOut Q) else wpOps P ops Q (range' (i+1) rest.length) (a.put o.dst undef) w):=by
   intro hw hh;rw [oK hs.env hw,if_pos rfl];refine .inl (Gt hs hc ⟨fun v mV h' a' w' μ' hK iZ hx=>?_,fun v vc h' w' μ' hK hv iZ hx=>?_⟩ hh)
   ·exact Mf hc rest (i+1) sk _ a' w' μ' Ae iZ (hl.after hx) (oD hK)
   ·exact hl.panic v vc _ a w' μ' hK hv iZ hx
  have Hf:kZ ops.toList o env=some false->(kf env n o.dst bz fun env=>mY P call ops.toList rest (i+1) (i :: sk) ⟨env,n,defs,hp⟩ K)=true ->
    (if Region.wanted o (yielded ops a.tmps) then o.wp P a w (wpOps P ops Q (range' (i+1) rest.length)) Q\/(o.asks P a w/\LetsOut Q) else wpOps P ops Q (range' (i+1) rest.length) (a.put o.dst undef) w):=by
   intro hw hh;rw [oK hs.env hw];simp only [false_eq_true,if_false];have iZ:=hs.left o.dst (h':=hp) VR.bz hs.iD (Mu.le.refl μ);exact Mf hc rest (i+1) (i :: sk) ⟨qp env n o.dst bz,n,defs,hp⟩ _ w μ Ae iZ hl (oD hh)
  simp only [mY] at h;split at h
  ·rename_i hg;exact Rn (by unfold kZ;rw [hg]) h
  ·rename_i j want hg;split at h
   ·cases h
   ·rename_i d hd;have Ro:=He (env:=env) hg hd
    cases hm:WB j sk with
    |true=>
     rw [hm] at h;simp only at h;split at h
     ·rename_i vs hv;rw [hv] at Ro;exact Hf Ro h
     ·cases h
    |false=>
     rw [hm] at h;simp only at h;rcases KE h with ⟨hv,h⟩|⟨hv,h⟩
     ·rw [hv] at Ro;rw [zD hv] at h
      cases want with
      |true=>exact Rn Ro h
      |false=>exact Hf Ro h
     ·rw [hv] at Ro;rw [zD hv] at h
      cases want with
      |true=>exact Hf Ro h
      |false=>exact Rn Ro h
theorem WC(hm:P.follows .mixedOrders=true):∀ (c:Code) (s:St) (a:Act) (w:World) (μ:Mu) (K:AX->St->Bool) (Q:Exit->Act->World->Prop),SR w0 μ s a w ->
  Bj w0 μ s.h w K Q->tq P (an P) c s K=true->c.wp P Q a w:=by
 have hc:=AR P;intro c
 induction c with
 |skip=>intro s a w μ K Q hs hl h;exact wp_skip (hl _ _ _ _ _ _ h .normal hs (Ext.refl _ _ _))
 |region id ops draw=>
  intro s a w μ K Q hs hl h;simp only [tq] at h
  cases draw with
  |true=>
   simp only at h;obtain ⟨NX,hp,h⟩:=iB h;exact S6 hm hc hp hs (fun s' a' w' μ' hK iZ hx=>hl _ _ _ _ _ _ hK .normal iZ hx) (ny _ _ _ _ h)
  |false=>
   simp only at h;refine wp_region ?_;have:=Mf (Q:=Q) hc ops.toList 0 [] s a w μ (fun j o hj=>by rw [Nat.zero_add];simpa using hj) hs ⟨fun s' a' w' μ' hK iZ hx=>hl _ _ _ _ _ _ hK .normal iZ hx,fun v vc s' a' w' μ' hK hv iZ hx=>hl _ _ _ _ _ _ hK (.panic v vc hv) iZ hx⟩ h;rw [range_eq_range'];simpa using this
 |seq x y ihx ihy=>
  intro s a w μ K Q hs hl h;simp only [tq] at h;refine wp_seq (ihx s a w μ _ _ hs (fun e ex s' a' w' μ' hK hq iZ hx=>?_) h)
  cases hq with
  |normal=>exact ihy s' a' w' μ' K Q iZ (hl.after hx) (by rw [N9] at hK;exact hK)
  |exit id=>exact hl _ _ _ _ _ _ hK (.exit id) iZ hx
  |ret=>exact hl _ _ _ _ _ _ hK .ret iZ hx
  |panic v vc hv=>exact hl _ _ _ _ _ _ hK (.panic v vc hv) iZ hx
 |cond c x y ihx ihy=>
  intro s a w μ K Q hs hl h;simp only [tq,aq] at h;have hcv:=hs.eval c;split at h
  ·rename_i t e;rw [e] at hcv
   cases t with
   |true=>exact wp_cond_true hcv.ku (ihx s a w μ K Q hs hl h)
   |false=>exact wp_cond_false hcv.ku (ihy s a w μ K Q hs hl h)
  ·cases h
 |block id c ih=>
  intro s a w μ K Q hs hl h;simp only [tq] at h;refine wp_block (ih s a w μ _ _ hs (fun e ex s' a' w' μ' hK hq iZ hx=>?_) h)
  cases hq with
  |normal=>exact hl _ _ _ _ _ _ hK .normal iZ hx
  |exit T9=>
   simp only [Exit.inBlock];simp only [cE] at hK;by_cases e:T9=id
   ·subst e;rw [Co] at hK;rw [if_pos rfl];exact hl _ _ _ _ _ _ hK .normal iZ hx
   ·rw [if_neg e]
    have hb:Nat.beq T9 id=false:=by
     cases hq:Nat.beq T9 id with
     |false=>rfl
     |true=>exact absurd (eq_of_beq_eq_true hq) e
    rw [hb] at hK;exact hl _ _ _ _ _ _ hK (.exit T9) iZ hx
  |ret=>exact hl _ _ _ _ _ _ hK .ret iZ hx
  |panic v vc hv=>exact hl _ _ _ _ _ _ hK (.panic v vc hv) iZ hx
 |loop c ih=>
  intro s a w μ K Q hs hl h;simp only [tq,bJ] at h;obtain ⟨I,⟨n0,hI0⟩,gw⟩:=bO.1 h;refine wp_loop_rounds (n0+1) ?_
  have key:∀ (N n:Nat) (s:St) (a:Act) (w:World) (μ:Mu),SR w0 μ s a w->Bj w0 μ s.h w K Q->I n s->n<N->Code.rounds P c Q N a w:=by
   intro N
   induction N with
   |zero=>intro n s a w μ hs hl hi hn;omega
   |succ N ihn=>
    intro n s a w μ hs hl hi hn;rw [rounds_succ];refine ih s a w μ _ _ hs (fun e ex s' a' w' μ' hK hq iZ hx=>?_) (gw n s hi)
    cases hq with
    |normal=>
     obtain ⟨m,hm1,Ob⟩:=bO.1 hK;exact ihn m s' a' w' μ' iZ (hl.after hx) Ob (by omega)
    |exit id=>exact hl _ _ _ _ _ _ hK (.exit id) iZ hx
    |ret=>exact hl _ _ _ _ _ _ hK .ret iZ hx
    |panic v vc hv=>exact hl _ _ _ _ _ _ hK (.panic v vc hv) iZ hx
  exact key (n0+1) n0 s a w μ hs hl hI0 (by omega)
 |exit id=>intro s a w μ K Q hs hl h;exact wp_exit (hl _ _ _ _ _ _ h (.exit id) hs (Ext.refl _ _ _))
 |ret=>intro s a w μ K Q hs hl h;exact wp_ret (hl _ _ _ _ _ _ h .ret hs (Ext.refl _ _ _))
 |_=>intros;rename_i h;simp [tq] at h
def noD:uB:=fun _=>none
theorem Us(P:Program):G9 P noD:=fun f g h=>by cases h
theorem WD(hm:P.follows .mixedOrders=true){D:uB}(hD:G9 P D){fn:Func}{c:Code}(VS:P.funcs[f]?=some fn)(hb:fn.body=some c)(WE:fn.name≠ "runtime.NumGoroutine")
  (hlen:args.length<=fn.ntmps)
  (hh:tq P (an P) c ⟨ay args,fn.ntmps,[],h⟩ (QL P D fn.results.toList K)=true):Sem P f args h K:=by
 refine ⟨⟨fn,c,VS,hb,WE⟩,fun w0 μ w vs hg hv=>?_⟩;refine calls_of_wp_defers VS hb ?_;refine WC (w0:=w0) hm c ⟨ay args,fn.ntmps,[],h⟩ _ w μ _ _ ⟨Dq hv hlen,.nil,hg⟩ (fun e ex s' a' w' μ' hK hq iZ hx=>?_) hh
 cases hq with
 |normal=>exact qJ hD _ _ none none s' a' w' μ' iZ.env iZ.defs iZ.iD .none hx hK
 |ret=>exact qJ hD _ _ none none s' a' w' μ' iZ.env iZ.defs iZ.iD .none hx hK
 |exit id=>cases hK
 |panic v vc hv=>exact qJ hD _ _ (some v) (some vc) s' a' w' μ' iZ.env iZ.defs iZ.iD (.some hv) hx hK
end
end
end Go.AM
namespace Go.AM
open List Nat Bool Option
open Go Go.RowKit
noncomputable section
variable {jm:Bool} {h:Heap}
def AV.scalar:AV->Bool
 |.undef|.bool _|.int _ _|.str _|.eZ|.ai|.mH|.rP|.uy=>true
 |_=>false
mutual
def AV.pure:AV->Bool
 |.ptr _ _|.slice _ _ _ _|.map _=>false
 |.dL cs _=>AV.cP cs
 |.ax cs _ _ _=>AV.cP cs
 |.func _ a b=>AV.cP a&&AV.cP b
 |.iface _ v=>AV.pure v
 |.agg cs=>AV.cP cs
 |.tuple cs=>AV.cP cs
 |_=>true
def AV.cP:List AV->Bool
 |[]=>true
 |a :: as=>AV.pure a&&AV.cP as
end
theorem AV.oV:∀ {l:List AV},AV.cP l=true->∀ {i:Nat} {x:AV},l[i]?=some x->x.pure=true
 |a :: l,h,0,x,e=>by simp [AV.cP] at h;simp at e;subst e;exact h.1
 |a :: l,h,i+1,x,e=>by simp [AV.cP] at h;exact AV.oV h.2 (by simpa using e)
 |[],h,i,x,e=>by simp at e
theorem AV.Mg{l m:List AV}(h:AV.cP l=true)(k:AV.cP m=true):AV.cP (l++m)=true:=by
 induction l with
 |nil=>exact k
 |cons a l ih=>simp only [AV.cP,and_eq_true,cons_append] at h ⊢;exact ⟨h.1,ih h.2⟩
inductive Fz (jm:Bool) (h:Heap):AV->AV->Prop where
 |scalar (x:AV) (hx:x.scalar=true):Fz jm h x x
 |dL (cs tc:List AV) (off:Nat) (ho:jm=true) (hl:cs.length=tc.length) (hr:∀ (i:Nat) (x y:AV),cs[i]?=some x->tc[i]?=some y->Fz jm h x y):Fz jm h (.dL cs off) (.dL tc off)
 |ax (cs tc:List AV) (off len sz:Nat) (ho:jm=true) (hl:cs.length=tc.length) (hr:∀ (i:Nat) (x y:AV),cs[i]?=some x->tc[i]?=some y->Fz jm h x y):Fz jm h (.ax cs off len sz) (.ax tc off len sz)
 |ptr (b off:Nat) (cs tc:List AV) (hb:h.get b=some (.cells cs)) (hl:cs.length=tc.length) (hr:∀ (i:Nat) (x y:AV),cs[i]?=some x->tc[i]?=some y->Fz jm h x y):Fz jm h (.ptr b off) (.dL tc off)
 |slice (b off len sz:Nat) (cs tc:List AV) (hb:h.get b=some (.cells cs)) (hl:cs.length=tc.length) (hr:∀ (i:Nat) (x y:AV),cs[i]?=some x->tc[i]?=some y->Fz jm h x y):Fz jm h (.slice b off len sz) (.ax tc off len sz)
 |func (f:FuncId) (xs ys xs' ys':List AV) (h1:xs.length=xs'.length) (h2:ys.length=ys'.length) (r1:∀ (i:Nat) (x y:AV),xs[i]?=some x->xs'[i]?=some y->Fz jm h x y)
   (r2:∀ (i:Nat) (x y:AV),ys[i]?=some x->ys'[i]?=some y->Fz jm h x y):Fz jm h (.func f xs ys) (.func f xs' ys')
 |iface (t:TypeId) (x y:AV) (hr:Fz jm h x y):Fz jm h (.iface t x) (.iface t y)
 |agg (cs tc:List AV) (hl:cs.length=tc.length) (hr:∀ (i:Nat) (x y:AV),cs[i]?=some x->tc[i]?=some y->Fz jm h x y):Fz jm h (.agg cs) (.agg tc)
 |tuple (cs tc:List AV) (hl:cs.length=tc.length) (hr:∀ (i:Nat) (x y:AV),cs[i]?=some x->tc[i]?=some y->Fz jm h x y):Fz jm h (.tuple cs) (.tuple tc)
structure j8 (jm:Bool) (h:Heap) (cs tc:List AV):Prop where
 len:cs.length=tc.length
 rel:∀ (i:Nat) (x y:AV),cs[i]?=some x->tc[i]?=some y->Fz jm h x y
theorem j8.nil:j8 jm h [] []:=⟨rfl,by simp⟩
theorem j8.cons{x y:AV}{xs ys:List AV}(h1:Fz jm h x y)(h2:j8 jm h xs ys):j8 jm h (x :: xs) (y :: ys):=
 ⟨by simp [h2.len],fun i u v a b=>by
  cases i with
  |zero=>simp at a b;subst a;subst b;exact h1
  |succ i=>simp at a b;exact h2.rel i u v a b⟩
theorem j8.append{xs ys us vs:List AV}(h1:j8 jm h xs us)(h2:j8 jm h ys vs):j8 jm h (xs++ys) (us++vs):=by
 induction xs generalizing us with
 |nil=>cases us with
  |nil=>exact h2
  |cons u us=>exact absurd h1.len (by simp)
 |cons x xs ih=>cases us with
  |nil=>exact absurd h1.len (by simp)
  |cons u us=>exact .cons (h1.rel 0 x u rfl rfl) (ih ⟨by simpa using h1.len,fun i a b p q=>h1.rel (i+1) a b (by simpa using p) (by simpa using q)⟩)
mutual
theorem Fz.de{h:Heap}:∀ {x:AV},x.pure=true->Fz true h x x
 |.undef,_=>.scalar _ rfl
 |.bool _,_=>.scalar _ rfl
 |.int _ _,_=>.scalar _ rfl
 |.str _,_=>.scalar _ rfl
 |.eZ,_=>.scalar _ rfl
 |.ai,_=>.scalar _ rfl
 |.mH,_=>.scalar _ rfl
 |.rP,_=>.scalar _ rfl
 |.uy,_=>.scalar _ rfl
 |.dL cs off,hp=>.dL cs cs off rfl rfl (j8.de hp).rel
 |.ax cs off len sz,hp=>.ax cs cs off len sz rfl rfl (j8.de hp).rel
 |.func f a b,hp=>by
  simp only [AV.pure,and_eq_true] at hp;exact .func f a b a b rfl rfl (j8.de hp.1).rel (j8.de hp.2).rel
 |.iface t x,hp=>.iface t x x (Fz.de hp)
 |.agg cs,hp=>.agg cs cs rfl (j8.de hp).rel
 |.tuple cs,hp=>.tuple cs cs rfl (j8.de hp).rel
 |.ptr _ _,hp=>by cases hp
 |.slice _ _ _ _,hp=>by cases hp
 |.map _,hp=>by cases hp
theorem j8.de{h:Heap}:∀ {l:List AV},AV.cP l=true->j8 true h l l
 |[],_=>.nil
 |a :: l,hp=>by
  simp only [AV.cP,and_eq_true] at hp;exact .cons (Fz.de hp.1) (j8.de hp.2)
end
section
variable {P:Program} {w0 w w':World} {μ μ':Mu} {h h':Heap}
def Mu.Qn(μ:Mu)(w:World)(c:Nat):Option (List Value):=
 match μ.z c with
 |some vs=>some vs
 |none=>@ite _ (∃ b k,μ b=some k/\k.c=c) (Classical.propDecidable _) (match w.heap[c]? with|some (.cells arr _ _)=>some arr.toList|_=>none) none
theorem Mu.Cp{c:Nat}{vs:List Value}(hz:μ.z c=some vs):μ.Qn w c=some vs:=by unfold Mu.Qn;rw [hz]
theorem Mu.Zh{b:Nat}{k:LY}(hb:μ b=some k)(hz:μ.z k.c=none){arr:Array Value}{e:TypeId}{fr:Nat×Nat}(hc:w.heap[k.c]?=some (.cells arr e fr)):μ.Qn w k.c=some arr.toList:=by
 unfold Mu.Qn;rw [hz];simp only;rw [if_pos ⟨b,k,hb,rfl⟩,hc]
theorem Mu.Ta{c:Nat}{vs:List Value}(h:μ.Qn w c=some vs):μ.z c=some vs\/((∃ b k,μ b=some k/\k.c=c)/\∃ arr e fr,w.heap[c]?=some (.cells arr e fr)/\arr.toList=vs):=by
 unfold Mu.Qn at h;split at h
 ·rename_i vs' hz;cases h;exact .inl hz
 ·split at h
  ·rename_i hex;split at h
   ·rename_i arr e fr hc;cases h;exact .inr ⟨hex,arr,e,fr,hc,rfl⟩
   ·cases h
  ·cases h
def Mu.Mh(μ μ':Mu)(w w':World):Mu:=⟨μ.m,fun c=>@ite _ ((∃ vs,μ.z c=some vs)\/w.heap.size<=c) (Classical.propDecidable _) (μ'.Qn w' c) none⟩
theorem KF(S4:Good w0 μ' h' w'){ν:Mu}(adA:∀ b k,μ' b=some k->∀ vs,μ'.Qn w' k.c=some vs->ν.z k.c=some vs)(hold:jm=true->∀ c vs,μ'.z c=some vs->ν.z c=some vs){x y:AV}(hf:Fz jm h' x y):∀ v,VR w0 μ' x v->VR w0 ν y v:=by
 have Zi:∀ b k cs,μ' b=some k->h'.get b=some (.cells cs)->∃ vs:List Value,vs.length=cs.length/\(ν.z k.c).isSome=true/\(∀ (i:Nat) (v:Value),vs[i]?=some v->ν.cell k.c (k.base+i)=some v) /\
   ∀ (i:Nat) (x:AV) (v:Value),cs[i]?=some x->vs[i]?=some v->VR w0 μ' x v:=by
  intro b k cs hb ho;obtain ⟨arr,e,fr,h1,h2,h3,h4,h5⟩:=S4.obj b k _ hb ho;have hz:ν.z k.c=some arr.toList:=adA b k hb _ (Mu.Zh hb (S4.apart b k hb) h1);refine ⟨(arr.toList.drop k.base).take cs.length,by simp;omega,by rw [hz];rfl,fun i v hi=>?_,fun i x v hx hi=>?_⟩
  ·rw [getElem?_take] at hi;split at hi
   ·rw [getElem?_drop] at hi;unfold Mu.cell;rw [hz];exact hi
   ·cases hi
  ·obtain ⟨v',KG,Rp⟩:=h5 i x hx;rw [getElem?_take] at hi;split at hi
   ·rw [getElem?_drop,Array.getElem?_toList,KG] at hi;cases hi;exact Rp
   ·cases hi
 have rows:∀ {cs tc:List AV} {vs:List Value},cs.length=tc.length->cs.length=vs.length->(∀ (i:Nat) (x y:AV),cs[i]?=some x->tc[i]?=some y->∀ v,VR w0 μ' x v->VR w0 ν y v) ->
   (∀ (i:Nat) (x:AV) (v:Value),cs[i]?=some x->vs[i]?=some v->VR w0 μ' x v)->∀ (i:Nat) (y:AV) (v:Value),tc[i]?=some y->vs[i]?=some v->VR w0 ν y v:=by
  intro cs tc vs hl WG ih hr i y v hy hv;have hi:i<tc.length:=(lR.1 hy).1;have hx:cs[i]?=some (cs[i]'(by omega)):=jQ (by omega);exact ih i _ y hx hy v (hr i _ v hx hv)
 induction hf with
 |scalar x hx=>
  intro v hv;cases hv<;>simp only [AV.scalar,false_eq_true,reduceCtorEq] at hx<;>constructor
 |dL cs tc off ho hl hr ih=>
  intro v hv;cases hv;rename_i g o vs hg hv G0 xM;refine .dL tc off g o vs ?_ (by omega) (fun i v hi=>?_) (rows hl G0 ih xM)
  ·trivial
  ·have:=hv i v hi;unfold Mu.cell at this ⊢;obtain ⟨zs,hz,wO⟩:=bind_eq_some_iff.1 this;rw [hold ho _ _ hz];exact wO
 |ax cs tc off len sz ho hl hr ih=>
  intro v hv;cases hv;rename_i cap a g o vs hg hv G0 xM ha hc;refine .ax tc off len sz cap a g o vs ?_ (by omega) (fun i v hi=>?_) (rows hl G0 ih xM) hc ha
  ·trivial
  ·have:=hv i v hi;unfold Mu.cell at this ⊢;obtain ⟨zs,hz,wO⟩:=bind_eq_some_iff.1 this;rw [hold ho _ _ hz];exact wO
 |ptr b off cs tc hb hl hr ih=>
  intro v hv;cases hv;rename_i k hk;obtain ⟨vs,q1,q2,q3,q4⟩:=Zi b k cs hk hb;exact .dL tc off k.c k.base vs trivial (by omega) q3 (rows hl (by omega) ih q4)
 |slice b off len sz cs tc hb hl hr ih=>
  intro v hv;cases hv;rename_i cap a k hk hc ha;obtain ⟨vs,q1,q2,q3,q4⟩:=Zi b k cs hk hb;exact .ax tc off len sz cap a k.c k.base vs trivial (by omega) q3 (rows hl (by omega) ih q4) hc (fun h0=>(ha h0).1)
 |func f xs ys xs' ys' h1 h2 r1 r2 ih1 ih2=>
  intro v hv;cases hv;rename_i us vs g1 q1 g2 q2;exact .func f xs' ys' us vs (by omega) (by omega) (rows h1 g1 ih1 q1) (rows h2 g2 ih2 q2)
 |iface t x y hr ih=>
  intro v hv;cases hv;rename_i v hv;exact .iface t y v (ih v hv)
 |agg cs tc hl hr ih=>
  intro v hv;cases hv;rename_i vs G0 xM;exact .agg tc vs (by omega) (rows hl G0 ih xM)
 |tuple cs tc hl hr ih=>
  intro v hv;cases hv;rename_i vs G0 xM;exact .tuple tc vs (by omega) (rows hl G0 ih xM)
theorem KH{ν:Mu}(hν:ν.m=fun _=>none)(hg:Good w0 μ h w)(S4:Good w0 μ' h' w')(hx:Ext ν Heap.empty w μ' h' w')(hz:∀ c vs,μ.z c=some vs->ν.z c=some vs) :
  Good w0 (μ.Mh μ' w w') h w'/\Ext μ h w (μ.Mh μ' w w') h w':=by
 have hf:∀ k,k<w.heap.size->w'.heap[k]?=w.heap[k]?:=fun k hk=>hx.frame k hk (by simp [hν])
 have rY:∀ c vs,(μ.Mh μ' w w').z c=some vs->μ.z c=some vs\/w.heap.size<=c:=by
  intro c vs hc;have Jw:@ite _ ((∃ vs,μ.z c=some vs)\/w.heap.size<=c) (Classical.propDecidable _) (μ'.Qn w' c) none=some vs:=hc;split at Jw
  ·rename_i hor;rcases hor with ⟨vs',hv⟩|YB
   ·rw [Mu.Cp (hx.mono.Ad _ _ (hz _ _ hv))] at Jw;cases Jw;exact .inl hv
   ·exact .inr YB
  ·cases Jw
 have af1:∀ c vs,μ.z c=some vs->(μ.Mh μ' w w').z c=some vs:=by
  intro c vs hv;show @ite _ ((∃ vs,μ.z c=some vs)\/w.heap.size<=c) (Classical.propDecidable _) (μ'.Qn w' c) none=some vs;rw [if_pos (.inl ⟨vs,hv⟩)];exact Mu.Cp (hx.mono.Ad _ _ (hz _ _ hv))
 have hle:μ.le (μ.Mh μ' w w'):=⟨fun _ _ h=>h,af1⟩
 refine ⟨⟨S4.below,hg.clean,hg.fresh,fun b k hb=>?_,fun c vs hc=>?_,fun b k hb=>?_,fun b k o hb ho=>?_,hg.inj⟩,⟨hle,fun k hk _=>hf k hk,fun _ _ h=>.inl h,hx.size,dK _,fun _ _ _=>rfl,fun _ _ h=>.inl h,rY⟩⟩
 ·have:=hg.own b k hb;have:=hx.size;omega
 ·have Jw:@ite _ ((∃ vs,μ.z c=some vs)\/w.heap.size<=c) (Classical.propDecidable _) (μ'.Qn w' c) none=some vs:=hc;split at Jw
  ·rcases Mu.Ta Jw with h1|⟨_,h1⟩
   ·exact S4.Ad c vs h1
   ·exact h1
  ·cases Jw
 ·cases hq:(μ.Mh μ' w w').z k.c with
  |none=>rfl
  |some vs=>
   have gN:μ b=some k:=hb;rcases rY _ _ hq with h1|h1
   ·rw [hg.apart b k gN] at h1;cases h1
   ·have:=(hg.own b k gN).2;omega
 ·have gN:μ b=some k:=hb;rw [hf _ (hg.own b k gN).2];exact rZ.mono hle (hg.obj b k o gN ho)
theorem VR.Zj(hz:∀ c vs,μ.z c=some vs->μ'.z c=some vs){x:AV}{v:Value}(hv:VR w0 μ x v)(hp:x.pure=true):VR w0 μ' x v:=by
 have Tb:∀ g,(μ.z g).isSome=true->(μ'.z g).isSome=true:=fun g hg=>by
  obtain ⟨zs,h1⟩:=isSome_iff_exists.1 hg;rw [hz _ _ h1];rfl
 have hcell:∀ g i v,μ.cell g i=some v->μ'.cell g i=some v:=fun g i v hc=>by
  unfold Mu.cell at hc ⊢;obtain ⟨zs,h1,h2⟩:=bind_eq_some_iff.1 hc;rw [hz _ _ h1];exact h2
 induction hv with
 |undef v=>exact .undef v
 |bool b=>exact .bool b
 |int k n=>exact .int k n
 |str s=>exact .str s
 |eZ=>exact .eZ
 |ptr b off k hk=>cases hp
 |dL cs off g o vs hg hl hv hr ih=>exact .dL cs off g o vs trivial hl (fun i v h=>hcell _ _ _ (hv i v h)) (fun i x v hx hv=>ih i x v hx hv (AV.oV hp hx))
 |ai=>exact .ai
 |slice b off len sz cap a k hk hc ha=>cases hp
 |ax cs off len sz cap a g o vs hg hl hv hr hc ha ih=>exact .ax cs off len sz cap a g o vs trivial hl (fun i v h=>hcell _ _ _ (hv i v h)) (fun i x v hx hv=>ih i x v hx hv (AV.oV hp hx)) hc ha
 |mH=>exact .mH
 |map b k hk=>cases hp
 |rP=>exact .rP
 |func f xs ys us vs h1 h2 r1 r2 ih1 ih2=>
  simp only [AV.pure,and_eq_true] at hp;exact .func f xs ys us vs h1 h2 (fun i x v hx hv=>ih1 i x v hx hv (AV.oV hp.1 hx)) (fun i x v hx hv=>ih2 i x v hx hv (AV.oV hp.2 hx))
 |uy=>exact .uy
 |iface t x v h ih=>exact .iface t x v (ih hp)
 |agg cs vs hl hr ih=>exact .agg cs vs hl (fun i x v hx hv=>ih i x v hx hv (AV.oV hp hx))
 |tuple cs vs hl hr ih=>exact .tuple cs vs hl (fun i x v hx hv=>ih i x v hx hv (AV.oV hp hx))
theorem Tc{ν:Mu}(hν:ν.m=fun _=>none)(S4:Good w0 μ' h' w')(hx:Ext ν Heap.empty w μ' h' w')(hz:jm=true->∀ c vs,ν.z c=some vs->μ.z c=some vs){x y:AV}(hf:Fz jm h' x y){v:Value}(hv:VR w0 μ' x v) :
  VR w0 (μ.Mh μ' w w') y v:=by
 have key:∀ c vs,μ'.Qn w' c=some vs->((∃ vs,μ.z c=some vs)\/w.heap.size<=c)->(μ.Mh μ' w w').z c=some vs:=by
  intro c vs hi hor;show @ite _ ((∃ vs,μ.z c=some vs)\/w.heap.size<=c) (Classical.propDecidable _) (μ'.Qn w' c) none=some vs;rw [if_pos hor];exact hi
 refine KF S4 (ν:=μ.Mh μ' w w') (fun b k hb vs hi=>key _ _ hi (.inr ?_)) (fun ho c vs hc=>key _ _ (Mu.Cp hc) ?_) hf v hv
 ·rcases hx.new b k hb with h1|h1|⟨b0,k0,h1,_⟩
  ·rw [hν] at h1;cases h1
  ·exact h1
  ·rw [hν] at h1;cases h1
 ·rcases hx.Ca c vs hc with h1|h1
  ·exact .inl ⟨vs,hz ho _ _ h1⟩
  ·exact .inr h1
theorem Sem.frozen{f:FuncId}{args:List AV}{K0 K:Out->Heap->Bool}(hs:Sem P f args Heap.empty K0)(hp:AV.cP args=true)
  (hk:∀ o h',K0 o h'=true->∃ v r,o = .ret v/\Fz true h' v r/\K (.ret r) h=true):Sem P f args h K:=by
 refine ⟨hs.1,fun w0 μ w vs hg hv=>?_⟩;have KI:fA w0 μ.bare args vs:=⟨hv.len,fun i x v hx Ku=>VR.Zj (μ:=μ) (μ':=μ.bare) (fun _ _ h=>h) (hv.rel i x v hx Ku) (AV.oV hp hx)⟩
 refine (hs.2 w0 μ.bare w vs hg.nothing KI).mono fun e w' hr=>?_
 cases e with
 |returned vc=>
  obtain ⟨v,h',μ',k1,k2,k3,k4⟩:=hr;obtain ⟨v',r,he,hf,hK⟩:=hk _ _ k1;cases he;obtain ⟨g1,g2⟩:=KH rfl hg k3 k4 (fun _ _ h=>h);exact ⟨r,h,_,hK,Tc (μ:=μ) rfl k3 k4 (fun _ _ _ h=>h) hf k2,g1,g2⟩
 |panicked c=>
  obtain ⟨v,vc,h',μ',k1,_⟩:=hr;obtain ⟨v',r,he,_⟩:=hk _ _ k1;cases he
 |outgrown=>exact hr.elim
theorem Good.alQ(hg:Good w0 μ h w):Good w0 ⟨fun _=>none,μ.Qn w⟩ Heap.empty w:=
 ⟨hg.below,Heap.yf,by simp,by simp,fun c vs hc=>by
  rcases Mu.Ta hc with h1|⟨_,h1⟩
  ·exact hg.Ad c vs h1
  ·exact h1,by simp,by simp,by simp⟩
theorem Sem.Ut{f:FuncId}{args AS:List AV}{K0 K:Out->Heap->Bool}(hs:Sem P f AS Heap.empty K0)(hp:j8 true h args AS)
  (hk:∀ o h',K0 o h'=true->∃ v r,o = .ret v/\Fz false h' v r/\K (.ret r) h=true):Sem P f args h K:=by
 refine ⟨hs.1,fun w0 μ w vs hg hv=>?_⟩
 have KI:fA w0 ⟨fun _=>none,μ.Qn w⟩ AS vs:=by
  refine ⟨by rw [<- hp.len];exact hv.len,fun i y v hy Ku=>?_⟩;have hi:i<AS.length:=(lR.1 hy).1;have hx:args[i]?=some (args[i]'(by rw [hp.len];exact hi)):=jQ _;exact KF hg (ν:=⟨fun _=>none,μ.Qn w⟩) (fun _ _ _ _ h=>h) (fun _ c vs h=>Mu.Cp h) (hp.rel i _ y hx hy) v (hv.rel i _ v hx Ku)
 refine (hs.2 w0 _ w vs hg.alQ KI).mono fun e w' hr=>?_
 cases e with
 |returned vc=>
  obtain ⟨v,h',μ',k1,k2,k3,k4⟩:=hr;obtain ⟨v',r,he,hf,hK⟩:=hk _ _ k1;cases he;obtain ⟨g1,g2⟩:=KH rfl hg k3 k4 (fun c vs h=>Mu.Cp h);exact ⟨r,h,_,hK,Tc (μ:=μ) rfl k3 k4 (fun h=>by cases h) hf k2,g1,g2⟩
 |panicked c=>
  obtain ⟨v,vc,h',μ',k1,_⟩:=hr;obtain ⟨v',r,he,_⟩:=hk _ _ k1;cases he
 |outgrown=>exact hr.elim
end
end
end Go.AM
namespace Go.AM
open List Nat Bool Option
open Go Go.RowKit
noncomputable section
def Dr(f:AV->Option AV):List AV->Option (List AV)
 |[]=>some []
 |x :: xs=>match f x with
  |none=>none
  |some y=>match Dr f xs with
   |none=>none
   |some ys=>some (y :: ys)
def nA(jm:Bool)(h:Heap):Nat->AV->Option AV
 |0,_=>none
 |n+1,x=>match x with
  |.ptr b off=>(match h.get b with
   |some (.cells cs)=>(match Dr (nA jm h n) cs with|some ds=>some (.dL ds off)|none=>none)
   |_=>none)
  |.slice b off len sz=>(match h.get b with
   |some (.cells cs)=>(match Dr (nA jm h n) cs with|some ds=>some (.ax ds off len sz)|none=>none)
   |_=>none)
  |.dL cs off=>@Bool.rec (fun _=>Option AV) none (match Dr (nA jm h n) cs with|some ds=>some (.dL ds off)|none=>none) jm
  |.ax cs off len sz=>@Bool.rec (fun _=>Option AV) none (match Dr (nA jm h n) cs with|some ds=>some (.ax ds off len sz)|none=>none) jm
  |.func f a b=>(match Dr (nA jm h n) a with
   |none=>none
   |some a'=>match Dr (nA jm h n) b with
    |none=>none
    |some b'=>some (.func f a' b'))
  |.iface t v=>(match nA jm h n v with|some w=>some (.iface t w)|none=>none)
  |.agg cs=>(match Dr (nA jm h n) cs with|some ds=>some (.agg ds)|none=>none)
  |.tuple cs=>(match Dr (nA jm h n) cs with|some ds=>some (.tuple ds)|none=>none)
  |.map _=>none
  |x=>some x
theorem rf{jm:Bool}{h:Heap}{f:AV->Option AV}(hf:∀ x y,f x=some y->Fz jm h x y):∀ {xs ys:List AV},Dr f xs=some ys->j8 jm h xs ys
 |[],ys,e=>by simp only [Dr,Option.some.injEq] at e;subst e;exact .nil
 |x :: xs,ys,e=>by
  simp only [Dr] at e;split at e
  ·cases e
  ·rename_i y hy;split at e
   ·cases e
   ·rename_i ys' hys;cases e;exact .cons (hf _ _ hy) (rf hf hys)
theorem vM{jm:Bool}{h:Heap}:∀ (n:Nat) (x y:AV),nA jm h n x=some y->Fz jm h x y
 |0,x,y,e=>by cases e
 |n+1,x,y,e=>by
  have ih:=fun x y=>vM (jm:=jm) (h:=h) n x y;cases x<;>simp only [nA,Option.some.injEq,reduceCtorEq] at e
  case undef=>subst e;exact .scalar _ rfl
  case bool=>subst e;exact .scalar _ rfl
  case int=>subst e;exact .scalar _ rfl
  case str=>subst e;exact .scalar _ rfl
  case eZ=>subst e;exact .scalar _ rfl
  case ai=>subst e;exact .scalar _ rfl
  case mH=>subst e;exact .scalar _ rfl
  case rP=>subst e;exact .scalar _ rfl
  case uy=>subst e;exact .scalar _ rfl
  case ptr b off=>
   split at e
   ·rename_i cs hb;split at e
    ·rename_i ds hd;cases e;have:=rf ih hd;exact .ptr b off cs ds hb this.len this.rel
    ·cases e
   ·cases e
  case slice b off len sz=>
   split at e
   ·rename_i cs hb;split at e
    ·rename_i ds hd;cases e;have:=rf ih hd;exact .slice b off len sz cs ds hb this.len this.rel
    ·cases e
   ·cases e
  case dL cs off=>
   cases ho:jm with
   |false=>rw [ho] at e;cases e
   |true=>
    rw [<- ho];rw [ho] at e;simp only at e;split at e
    ·rename_i ds hd;cases e;rw [<- ho] at hd;have:=rf ih hd;exact .dL cs ds off ho this.len this.rel
    ·cases e
  case ax cs off len sz=>
   cases ho:jm with
   |false=>rw [ho] at e;cases e
   |true=>
    rw [<- ho];rw [ho] at e;simp only at e;split at e
    ·rename_i ds hd;cases e;rw [<- ho] at hd;have:=rf ih hd;exact .ax cs ds off len sz ho this.len this.rel
    ·cases e
  case func f a b=>
   split at e
   ·cases e
   ·rename_i a' ha;split at e
    ·cases e
    ·rename_i b' hb;cases e;have h1:=rf ih ha;have h2:=rf ih hb;exact .func f a b a' b' h1.len h2.len h1.rel h2.rel
  case iface t v=>
   split at e
   ·rename_i w hw;cases e;exact .iface t v w (ih _ _ hw)
   ·cases e
  case agg cs=>
   split at e
   ·rename_i ds hd;cases e;have:=rf ih hd;exact .agg cs ds this.len this.rel
   ·cases e
  case tuple cs=>
   split at e
   ·rename_i ds hd;cases e;have:=rf ih hd;exact .tuple cs ds this.len this.rel
   ·cases e
def cR(jm:Bool)(n:Nat)(r:AV):Out->Heap->Bool
 |.ret v,h=>(match nA jm h n v with|some r'=>AV.beq r' r|none=>false)
 |_,_=>false
def lu(a0:List AV)(r:AV):List AV->Heap->(Out->Heap->Bool)->Bool:=fun args h K=>
 AV.B0 args a0&&K (.ret r) h
def eE(n:Nat)(a0:List AV)(r:AV):List AV->Heap->(Out->Heap->Bool)->Bool:=fun args h K=>
 match Dr (nA true h n) args with
 |some as=>AV.B0 as a0&&K (.ret r) h
 |none=>false
theorem dg{P:Program}{call:mU}(hs:iS P call){f:FuncId}{a0:List AV}{n:Nat}{r:AV}(hp:AV.cP a0=true)(he:call f a0 Heap.empty (cR true n r)=true)
  (args:List AV) (h:Heap) (K:Out->Heap->Bool) (hK:lu a0 r args h K=true):Sem P f args h K:=by
 simp only [lu,and_eq_true] at hK;obtain rfl:=AV.r9 _ _ hK.1;refine Sem.frozen (hs.sem he) hp fun o h' ho=>?_
 cases o with
 |ret v=>
  simp only [cR] at ho;split at ho
  ·rename_i r' hr;obtain rfl:=AV.beq_eq _ _ ho;exact ⟨v,_,rfl,vM _ _ _ hr,hK.2⟩
  ·cases ho
 |panic v=>cases ho
theorem bh{P:Program}{call:mU}(hs:iS P call){f:FuncId}{a0:List AV}{n m:Nat}{r:AV}(he:call f a0 Heap.empty (cR false n r)=true)
  (args:List AV) (h:Heap) (K:Out->Heap->Bool) (hK:eE m a0 r args h K=true):Sem P f args h K:=by
 unfold eE at hK;split at hK
 ·rename_i as ha;simp only [and_eq_true] at hK;obtain rfl:=AV.r9 _ _ hK.1;refine Sem.Ut (hs.sem he) (rf (fun x y=>vM m x y) ha) fun o h' ho=>?_
  cases o with
  |ret v=>
   simp only [cR] at ho;split at ho
   ·rename_i r' hr;obtain rfl:=AV.beq_eq _ _ ho;exact ⟨v,_,rfl,vM _ _ _ hr,hK.2⟩
   ·cases ho
  |panic v=>cases ho
 ·cases hK
end
end Go.AM