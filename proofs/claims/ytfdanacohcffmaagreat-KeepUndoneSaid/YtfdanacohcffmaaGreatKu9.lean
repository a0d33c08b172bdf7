/- Parts of the proof. Conditions: none. -/
import Derived.Test.YtfdanacohcffmaaGreatKu8
import Derived.LoopN
set_option linter.unusedSimpArgs false
set_option linter.unusedVariables false
namespace Go.AM
open List Nat Bool Option
open Go Go.RowKit
inductive Yb (w0:World) (μ:Mu):AX->Exit->Prop where
 |normal:Yb w0 μ .normal .normal
 |exit (id:Nat):Yb w0 μ (.exit id) (.exit id)
 |ret:Yb w0 μ .ret .ret
 |panic (v:AV) (vc:Value) (h:VR w0 μ v vc):Yb w0 μ (.panic v) (.panic [{ v:=vc,recovered:=false }])
def wq(w0:World)(μ:Mu)(h:Heap)(w:World)(K:AX->St->Bool)(Q:Exit->Act->World->Prop):Prop:=
 ∀ (e:AX) (ex:Exit) (s':St) (a':Act) (w':World) (μ':Mu),K e s'=true->Yb w0 μ' e ex->SR w0 μ' s' a' w'->Ext μ h w μ' s'.h w'->Q ex a' w'
section
variable {P:Program} {w0 w:World} {μ μ':Mu} {h h':Heap} {s:St} {a:Act}
theorem wq.after{K:AX->St->Bool}{Q:Exit->Act->World->Prop}(hl:wq w0 μ h w K Q){w':World}(hx:Ext μ h w μ' h' w'):wq w0 μ' h' w' K Q:=
 fun e ex s2 a2 w2 μ2 k2 q2 r2 x2=>hl e ex s2 a2 w2 μ2 k2 q2 r2 (hx.trans x2)
theorem Ia(env:Env):∀ (n i t:Nat),aC (J8 env n i) t=if t<n then env (i+t) else bI
 |0,i,t=>by simp [J8,aC]
 |n+1,i,t=>by
  cases t with
  |zero=>simp [J8,aC]
  |succ t=>
   simp only [J8,aC,Ia env n (i+1) t];rw [show i+1+t=i+(t+1) by omega];by_cases h:t<n
   ·rw [if_pos h,if_pos (by omega)]
   ·rw [if_neg h,if_neg (by omega)]
theorem SR.tab(hs:SR w0 μ s a w):SR w0 μ s.tab a w:=by
 refine ⟨⟨hs.env.1,fun t=>?_⟩,hs.defs,hs.gC⟩;show VR w0 μ (aC (J8 s.env s.n 0) t) _;rw [Ia];by_cases h:t<s.n
 ·rw [if_pos h,Nat.zero_add];exact hs.env.2 t
 ·rw [if_neg h]
  have:a.tmps.getD t undef=undef:=by
   have h1:=hs.env.1;rw [Array.getD_eq_getD_getElem?,Array.getElem?_eq_none (by omega)];rfl
  rw [this];exact VR.bI
theorem LX(hm:P.follows .mixedOrders=true){call:jI}(hc:fR P call)(rounds:Nat):∀ (c:Code) (s:St) (a:Act) (w:World) (μ:Mu) (K:AX->St->Bool) (Q:Exit->Act->World->Prop),SR w0 μ s a w ->
  wq w0 μ s.h w K Q->evalCode P call rounds c s K=true->c.wp P Q a w:=by
 intro c
 induction c with
 |skip=>intro s a w μ K Q hs hl h;exact wp_skip (hl _ _ _ _ _ _ h .normal hs (Ext.refl _ _ _))
 |region id ops draw=>
  intro s a w μ K Q hs hl h;simp only [evalCode] at h
  cases draw with
  |true=>
   rw [if_pos rfl] at h;obtain ⟨H9,hp,h⟩:=fF h;exact LW hm hc hp hs (fun s' a' w' μ' hK gu hx=>hl _ _ _ _ _ _ hK .normal gu hx) h
  |false=>
   simp only [false_eq_true,if_false] at h;refine wp_region ?_;have:=Kn (Q:=Q) hc ops.toList 0 s a w μ (fun j o hj=>by rw [Nat.zero_add];simpa using hj) hs ⟨fun s' a' w' μ' hK gu hx=>hl _ _ _ _ _ _ hK .normal gu hx,fun v vc s' a' w' μ' hK hv gu hx=>hl _ _ _ _ _ _ hK (.panic v vc hv) gu hx⟩ h;rw [range_eq_range'];simpa using this
 |seq x y VE VF=>
  intro s a w μ K Q hs hl h;simp only [evalCode] at h;refine wp_seq (VE s a w μ _ _ hs (fun e ex s' a' w' μ' hK hq gu hx=>?_) h)
  cases hq with
  |normal=>exact VF s' a' w' μ' K Q gu (hl.after hx) hK
  |exit id=>exact hl _ _ _ _ _ _ hK (.exit id) gu hx
  |ret=>exact hl _ _ _ _ _ _ hK .ret gu hx
  |panic v vc hv=>exact hl _ _ _ _ _ _ hK (.panic v vc hv) gu hx
 |cond c x y VE VF=>
  intro s a w μ K Q hs hl h;simp only [evalCode] at h;have hcv:=hs.eval c;split at h
  ·rename_i e;rw [e] at hcv;exact wp_cond_true hcv.iz (VE s a w μ K Q hs hl h)
  ·rename_i e;rw [e] at hcv;exact wp_cond_false hcv.iz (VF s a w μ K Q hs hl h)
  ·cases h
 |block id c ih=>
  intro s a w μ K Q hs hl h;simp only [evalCode] at h;refine wp_block (ih s a w μ _ _ hs (fun e ex s' a' w' μ' hK hq gu hx=>?_) h)
  cases hq with
  |normal=>exact hl _ _ _ _ _ _ hK .normal gu hx
  |exit MO=>
   simp only [Exit.inBlock];simp only at hK;by_cases e:MO=id
   ·rw [if_pos e];rw [if_pos e] at hK;exact hl _ _ _ _ _ _ hK .normal gu hx
   ·rw [if_neg e];rw [if_neg e] at hK;exact hl _ _ _ _ _ _ hK (.exit MO) gu hx
  |ret=>exact hl _ _ _ _ _ _ hK .ret gu hx
  |panic v vc hv=>exact hl _ _ _ _ _ _ hK (.panic v vc hv) gu hx
 |loop c ih=>
  intro s a w μ K Q hs hl h;simp only [evalCode] at h;refine wp_loop_rounds rounds ?_
  have key:∀ (n:Nat) (s:St) (a:Act) (w:World) (μ:Mu),SR w0 μ s a w->wq w0 μ s.h w K Q->iter (evalCode P call rounds c) K n s=true->Code.rounds P c Q n a w:=by
   intro n
   induction n with
   |zero=>intro s a w μ hs hl h;cases h
   |succ n ihn=>
    intro s a w μ hs hl h;simp only [iter] at h;rw [rounds_succ];refine ih s a w μ _ _ hs (fun e ex s' a' w' μ' hK hq gu hx=>?_) h
    cases hq with
    |normal=>exact ihn s'.tab a' w' μ' gu.tab (hl.after hx) hK
    |exit id=>exact hl _ _ _ _ _ _ hK (.exit id) gu hx
    |ret=>exact hl _ _ _ _ _ _ hK .ret gu hx
    |panic v vc hv=>exact hl _ _ _ _ _ _ hK (.panic v vc hv) gu hx
  exact key rounds s a w μ hs hl h
 |exit id=>intro s a w μ K Q hs hl h;exact wp_exit (hl _ _ _ _ _ _ h (.exit id) hs (Ext.refl _ _ _))
 |ret=>intro s a w μ K Q hs hl h;exact wp_ret (hl _ _ _ _ _ _ h .ret hs (Ext.refl _ _ _))
 |_=>intros;rename_i h;simp [evalCode] at h
def oz(vc:Option Value):FrameMode:=match vc with
 |none=>.returning
 |some v=>.panicking [{ v,recovered:=false }]
inductive Ed (w0:World) (μ:Mu):Option AV->Option Value->Prop where
 |none:Ed w0 μ none none
 |some {v:AV} {vc:Value} (h:VR w0 μ v vc):Ed w0 μ (some v) (some vc)
def Cj(P:Program)(D:pL):Prop:=
 ∀ f g,D f=some g->Enters P f/\∀ (args:List AV) (HE:Option AV) (h:Heap) (K:Option AV->Heap->Bool),g args HE h K=true ->
  ∀ (w0:World) (μ:Mu) (w:World) (vs:List Value) (pv:Option Value),Good w0 μ h w->dY w0 μ args vs->Ed w0 μ HE pv->CallsD P f vs.toArray (oz pv) w fun
   |.returned _,u',w'=>∃ rX JR h' μ',K rX h'=true/\Ed w0 μ' rX JR/\settle u'=oz JR/\Good w0 μ' h' w'/\Ext μ h w μ' h' w'
   |_,_,_=>False
def Fi(tmps:Array Value):ResultVar->Sem Value
 |.tmp t=>pure (tmps.getD t undef)
 |.cell x t=>do loadVar t (<- asAddr (tmps.getD x undef))
theorem Ib(hs:SR w0 μ s a w){r:ResultVar}{v:AV}(h:Bw P s r=some v) :
  ∃ vc,(Fi a.tmps r).run P w = .ok vc w/\VR w0 μ v vc:=by
 cases r with
 |tmp t=>
  simp only [Bw,Option.some.injEq] at h;subst h;exact ⟨_,by simp only [Fi,Sem.run_pure],hs.env.2 t⟩
 |cell x t=>
  simp only [Bw] at h;split at h
  ·rename_i i hi;have hx:=hs.env.2 x;unfold ag at h;split at h
   ·rename_i b off hxe;rw [hxe] at hx;split at h
    ·rename_i cs ho;generalize RA:a.tmps.getD x undef=xv at hx;cases hx;rename_i k hk;obtain ⟨vc,h1,h2⟩:=oX hi (hs.gC.cells hk ho) h;exact ⟨vc,by simp only [Fi,RA,asAddr,Sem.run_bind,Sem.run_pure,Result.andThen_ok,h1],h2⟩
    ·cases h
   ·rename_i cs off hxe;rw [hxe] at hx;generalize RA:a.tmps.getD x undef=xv at hx;cases hx;rename_i g o vs Ur hv Ca vF;obtain ⟨vc,h1,h2⟩:=oX hi (hs.gC.Kh Ur Ca hv vF) h;exact ⟨vc,by simp only [Fi,RA,asAddr,Sem.run_bind,Sem.run_pure,Result.andThen_ok,h1],h2⟩
   ·cases h
  ·cases h
theorem Ah(hs:SR w0 μ s a w):∀ (rs:List ResultVar) (vs:List AV),dw P s rs=some vs ->
  ∃ us:List Value,(rs.mapM (Fi a.tmps)).run P w = .ok us w/\dY w0 μ vs us
 |[],vs,h=>by
  simp only [dw,Option.some.injEq] at h;subst h;exact ⟨[],by simp,.nil⟩
 |r :: rs,vs,h=>by
  simp only [dw] at h;split at h
  ·rename_i v vs' h1 h2;cases h;obtain ⟨vc,e1,e2⟩:=Ib hs h1;obtain ⟨us,e3,e4⟩:=Ah hs rs vs' h2;exact ⟨vc :: us,by simp only [mapM_cons,Sem.run_bind,e1,Result.andThen_ok,e3,Sem.run_pure],.cons e2 e4⟩
  ·cases h
theorem Ai(hs:SR w0 μ s a w){fn:Func}{vs:List AV}(h:dw P s fn.results.toList=some vs):∃ vc,(results fn a.tmps).run P w = .ok vc w/\VR w0 μ (oneOf vs) vc:=by
 obtain ⟨us,h1,h2⟩:=Ah hs _ _ h
 have hm:(results fn a.tmps).run P w = .ok (if h:us.toArray.size=1 then us.toArray[0] else .tuple us.toArray) w:=by
  have hr:results fn a.tmps=(do let vs <- fn.results.mapM (Fi a.tmps);pure (if h:vs.size=1 then vs[0] else .tuple vs)):=by
   unfold results;congr 2
  rw [hr,<- Array.toArray_toList (xs:=fn.results),mapM_toArray];simp only [Sem.run_bind,map_eq_pure_bind,h1,Result.andThen_ok,Sem.run_pure]
 refine ⟨_,hm,?_⟩
 cases vs with
 |nil=>obtain rfl:=h2.gN;exact dY.tuple .nil
 |cons v vs=>
  obtain ⟨u,Xi,rfl,h3,h4⟩:=h2.cons_inv
  cases vs with
  |nil=>obtain rfl:=h4.gN;simpa [oneOf] using h3
  |cons v2 vs=>
   obtain ⟨u2,us2,rfl,h5,h6⟩:=h4.cons_inv;rw [dif_neg (by simp)];exact dY.tuple h2
theorem mB{D:pL}(hD:Cj P D){fn:Func}{μb:Mu}{hb:Heap}{wb:World}{K:Out->Heap->Bool}:∀ (ds:List oV) (Ds:List Deferred) (HE:Option AV) (pv:Option Value) (s:St) (a:Act) (w:World) (μ:Mu),
  Cf w0 μ s.env s.n a.tmps->xE w0 μ ds Ds->Good w0 μ s.h w->Ed w0 μ HE pv->Ext μb hb wb μ s.h w->leave P D fn.results.toList K ds HE s=true ->
  Leaves P fn a.tmps (yX w0 μb hb wb K) Ds (oz pv) w
 |[],Ds,HE,pv,s,a,w,μ,he,hd,hg,hp,hx,h=>by
  cases hd;have hs:SR w0 μ ⟨s.env,s.n,[],s.h⟩ ⟨a.tmps,[]⟩ w:=⟨he,.nil,hg⟩
  cases hp with
  |none=>
   simp only [leave] at h;obtain ⟨vs,h1,h2⟩:=fF h
   have Ut:dw P ⟨s.env,s.n,[],s.h⟩ fn.results.toList=some vs:=by
    rw [<- h1]
    have:∀ rs:List ResultVar,dw P ⟨s.env,s.n,[],s.h⟩ rs=dw P s rs:=by
     intro rs
     induction rs with
     |nil=>rfl
     |cons r rs ih=>simp only [dw,ih];cases r<;>rfl
    exact this _
   obtain ⟨vc,h3,h4⟩:=Ai hs Ut;exact ⟨vc,h3,_,_,_,h2,h4,hg,hx⟩
  |some hv=>
   simp only [leave] at h;exact ⟨_,_,_,_,h,rfl,hv,hg,hx⟩
 |d :: ds,Ds,HE,pv,s,a,w,μ,he,hd,hg,hp,hx,h=>by
  cases hd with
  |cons hdr ht=>
   obtain ⟨cap,args,rfl,r1,r2⟩:=hdr;simp only [leave] at h;split at h
   ·rename_i g LU;obtain ⟨rY,VG⟩:=hD d.f g LU;have hcd:=VG _ _ _ _ h w0 μ w (args++cap) pv hg (r1.append r2) hp;refine ⟨by cases pv<;>simp [oz],.func d.f,cap.toArray,d.f,(args++cap).toArray,rfl,?_,?_⟩
    ·have e:args.toArray++cap.toArray=(args++cap).toArray:=(by simp);simp only [invoke,e,xF rY]
    ·refine CallsD.mono hcd fun e u' w' hR=>?_
     cases e with
     |returned v=>
      obtain ⟨rX,JR,h',μ',hK,B6,hu,hg2,gi⟩:=hR;simp only;rw [hu];exact mB hD ds _ rX JR ⟨s.env,s.n,s.defs,h'⟩ a w' μ' (he.mono gi.mono) (ht.mono gi.mono) hg2 B6 (hx.trans gi) hK
     |panicked c=>exact hR.elim
     |outgrown=>exact hR.elim
   ·cases h
theorem yZ{args:List AV}{vs:List Value}(h:dY w0 μ args vs){n:Nat}(hn:args.length<=n):Cf w0 μ (aC args) n (vs.toArray++Array.replicate (n-vs.toArray.size) undef):=by
 have hl:=h.len;refine ⟨by simp;omega,fun t=>?_⟩
 have key:∀ (args:List AV) (t:Nat),aC args t=(args[t]?).getD bI:=by
  intro args
  induction args with
  |nil=>intro t;simp [aC]
  |cons x xs ih=>
   intro t
   cases t with
   |zero=>simp [aC]
   |succ t=>simp [aC,ih]
 rw [key];by_cases ht:t<args.length
 ·have h1:args[t]?=some args[t]:=eA ht;obtain ⟨v,h2,h3⟩:=h.get h1;rw [h1]
  have:(vs.toArray++Array.replicate (n-vs.toArray.size) undef).getD t undef=v:=by
   rw [Array.getD_eq_getD_getElem?,Array.getElem?_append_left (by simp;omega)];simp [h2]
  rw [this];exact h3
 ·rw [getElem?_eq_none (by omega)]
  have:(vs.toArray++Array.replicate (n-vs.toArray.size) undef).getD t undef=undef:=by
   rw [Array.getD_eq_getD_getElem?,Array.getElem?_append_right (by simp;omega),Array.getElem?_replicate];split<;>rfl
  rw [this];exact VR.bI
def iJ(P:Program)(F:xu):Prop:=
 ∀ f g,F f=some g->∀ args h K,g args h K=true->Enters P f/\∀ (w0:World) (μ:Mu) (w:World) (vs:List Value),Good w0 μ h w->dY w0 μ args vs->Calls P f vs.toArray w (yX w0 μ h w K)
theorem jW(hm:P.follows .mixedOrders=true){F:xu}{D:pL}(hF:iJ P F)(hD:Cj P D):∀ n,fR P (bP P F D n)
 |0=>fun f args h K hh=>by cases hh
 |n+1=>fun f args h K hh=>by
  simp only [bP] at hh;split at hh
  ·rename_i g hg;exact hF f g hg args h K hh
  ·split at hh
   ·cases hh
   ·rename_i fn Ou;split at hh
    ·rename_i Cb;simp only [and_eq_true,decide_eq_true_eq,bne_iff_ne,ne_eq] at Cb;unfold OJ at hh;split at hh
     ·cases hh
     ·rename_i c hb;refine ⟨⟨fn,c,Ou,hb,Cb.2⟩,fun w0 μ w vs hg hv=>?_⟩;refine calls_of_wp_defers Ou hb ?_;refine LX (w0:=w0) hm (jW hm hF hD n) n c ⟨aC args,fn.ntmps,[],h⟩ _ w μ _ _ ⟨yZ hv Cb.1,.nil,hg⟩ (fun e ex s' a' w' μ' hK hq gu hx=>?_) hh
      cases hq with
      |normal=>exact mB hD _ _ none none s' a' w' μ' gu.env gu.defs gu.gC .none hx hK
      |ret=>exact mB hD _ _ none none s' a' w' μ' gu.env gu.defs gu.gC .none hx hK
      |exit id=>cases hK
      |panic v vc hv=>exact mB hD _ _ (some v) (some vc) s' a' w' μ' gu.env gu.defs gu.gC (.some hv) hx hK
    ·cases hh
end
end Go.AM
namespace Go.AM
open List Nat Bool Option
open Go Go.RowKit
def RQ:List Entry->List Entry->Bool
 |[],[]=>true
 |a :: as,b :: bs=>AV.beq a.1 b.1&&(AV.beq a.2.1 b.2.1&&(Nat.beq a.2.2 b.2.2&&RQ as bs))
 |_,_=>false
def Heap.Clean(h:Heap):Prop:=∀ b,h.next<=b->h.get b=none
theorem Heap.sR:Heap.empty.Clean:=fun b _=>Trie.BZ b
theorem Heap.Ic{h:Heap}(hc:h.Clean)(o:jV):(h.alloc o).Clean:=fun b hb=>by
 simp at hb;rw [Heap.aU,if_neg (by omega)];exact hc b (by omega)
section
variable {P:Program} {w0 w:World} {μ μ':Mu} {h h' h1:Heap}
def Mu.bare(μ:Mu):Mu:=⟨fun _=>Option.none,μ.z⟩
def Mu.xy(μ μ':Mu):Mu:=⟨μ.m,μ'.z⟩
theorem Good.nothing(hg:Good w0 μ h w):Good w0 μ.bare Heap.empty w:=
 ⟨hg.below,Heap.sR,by simp [Mu.bare],by simp [Mu.bare],hg.yM,by simp [Mu.bare],by simp [Mu.bare],by simp [Mu.bare]⟩
theorem Good.VH(hg:Good w0 μ h w){w':World}(LU:Good w0 μ' h' w')(hx:Ext μ.bare Heap.empty w μ' h' w'):Good w0 (μ.xy μ') h w'/\Ext μ h w (μ.xy μ') h w':=by
 have hf:∀ k,k<w.heap.size->w'.heap[k]?=w.heap[k]?:=fun k hk=>hx.frame k hk (by simp [Mu.bare]);refine ⟨⟨LU.below,hg.clean,hg.fresh,fun b k hb=>?_,LU.yM,fun b k hb=>?_,fun b k o hb ho=>?_,hg.inj⟩,⟨⟨fun _ _ h=>h,hx.mono.yM⟩,fun k hk _=>hf k hk,fun _ _ h=>.inl h,hx.size,dM _,fun _ _ _=>rfl,fun _ _ h=>.inl h,hx.xy⟩⟩
 ·have:=hg.own b k hb;have:=hx.size;omega
 ·show μ'.z k.c=none
  cases hz:μ'.z k.c with
  |none=>rfl
  |some vs=>
   rcases hx.xy _ _ hz with h1|h1
   ·have Ut:μ.z k.c=some vs:=h1;rw [hg.apart b k hb] at Ut;cases Ut
   ·have:=(hg.own b k hb).2;omega
 ·have eW:μ b=some k:=hb;rw [hf _ (hg.own b k eW).2];exact nB.mono (μ:=μ) (μ':=μ.xy μ') ⟨fun _ _ h=>h,hx.mono.yM⟩ (hg.obj b k o eW ho)
def UB(b:Bool):List AV->Heap->(Out->Heap->Bool)->Bool:=fun args h K=>
 match args with
 |[]=>K (.ret (.bool b)) h
 |_=>false
def UC(b:Bool):Out->Heap->Bool
 |.ret v,_=>AV.beq v (.bool b)
 |_,_=>false
theorem Ie{call:jI}(hs:fR P call){f:FuncId}{b:Bool}(he:call f [] Heap.empty (UC b)=true)(args:List AV)(h:Heap)(K:Out->Heap->Bool)(hK:UB b args h K=true) :
  Enters P f/\∀ (w0:World) (μ:Mu) (w:World) (vs:List Value),Good w0 μ h w->dY w0 μ args vs->Calls P f vs.toArray w (yX w0 μ h w K):=by
 obtain ⟨rY,hc⟩:=hs _ _ _ _ he;refine ⟨rY,fun w0 μ w vs hg hv=>?_⟩;unfold UB at hK;split at hK
 ·obtain rfl:=hv.gN;refine Calls.mono (hc w0 _ w [] hg.nothing .nil) fun e w' hR=>?_
  cases e with
  |returned vc=>
   obtain ⟨v,h',μ',k1,k2,k3,k4⟩:=hR;obtain rfl:=AV.beq_eq _ _ k1;obtain ⟨g1,g2⟩:=hg.VH k3 k4;rw [k2.iz];exact ⟨_,h,μ.xy μ',hK,.bool b,g1,g2⟩
  |panicked c=>
   obtain ⟨v,vc,h',μ',k1,_⟩:=hR;cases k1
  |outgrown=>exact hR.elim
 ·cases hK
end
end Go.AM
namespace Go.AM
open List Nat Bool Option
open Go Go.RowKit
section
variable {w0:World} {μ:Mu} {ρ:Nat->Nat}
end
mutual
theorem AV.beq_refl:∀ x:AV,AV.beq x x=true
 |.undef=>rfl
 |.bool a=>by simp [AV.beq]
 |.int k a=>by simp [AV.beq]
 |.str a=>by simp [AV.beq]
 |.ey=>rfl
 |.ptr a i=>by simp [AV.beq]
 |.dO a i=>by simp [AV.beq,AV.mC a]
 |.ax=>rfl
 |.slice b i l s=>by simp [AV.beq]
 |.au a i l s=>by simp [AV.beq,AV.mC a]
 |.jH=>rfl
 |.map a=>by simp [AV.beq]
 |.mY=>rfl
 |.func f a b=>by simp [AV.beq,AV.mC a,AV.mC b]
 |.pJ=>rfl
 |.iface t v=>by simp [AV.beq,AV.beq_refl v]
 |.agg a=>by simp [AV.beq,AV.mC a]
 |.tuple a=>by simp [AV.beq,AV.mC a]
theorem AV.mC:∀ x:List AV,AV.xk x x=true
 |[]=>rfl
 |a :: l=>by simp [AV.xk,AV.beq_refl a,AV.mC l]
end
theorem xO:∀ n:Nat,Nat.beq n n=true
 |0=>rfl
 |n+1=>xO n
end Go.AM
namespace Go.AM
open List Nat Bool Option
def jX(g1 g2:List AV->Heap->(Out->Heap->Bool)->Bool):List AV->Heap->(Out->Heap->Bool)->Bool:=fun args h K=>g1 args h K||g2 args h K
theorem cr{g1 g2:List AV->Heap->(Out->Heap->Bool)->Bool}{args:List AV}{h:Heap}{K:Out->Heap->Bool}(hK:jX g1 g2 args h K=true):g1 args h K=true\/g2 args h K=true:=by
 simpa [jX] using hK
end Go.AM
namespace Go.AM
open List Nat Bool Option
open Go Go.RowKit
noncomputable section
variable {K:Out->Heap->Bool} {args:List AV} {h:Heap} {f:FuncId} {env:Env} {P:Program}
def Sem(P:Program)(f:FuncId)(args:List AV)(h:Heap)(K:Out->Heap->Bool):Prop:=
 Enters P f/\∀ (w0:World) (μ:Mu) (w:World) (vs:List Value),Good w0 μ h w->dY w0 μ args vs->Calls P f vs.toArray w (yX w0 μ h w K)
theorem yX.mono{w0 w:World}{μ:Mu}{K':Out->Heap->Bool}(hk:∀ o h',K o h'=true->K' o h'=true){e:Ending}{w':World}(hr:yX w0 μ h w K e w'):yX w0 μ h w K' e w':=by
 cases e with
 |returned vc=>obtain ⟨v,h',μ',k1,k2⟩:=hr;exact ⟨v,h',μ',hk _ _ k1,k2⟩
 |panicked c=>obtain ⟨v,vc,h',μ',k1,k2⟩:=hr;exact ⟨v,vc,h',μ',hk _ _ k1,k2⟩
 |outgrown=>exact hr.elim
theorem Sem.mono{P:Program}{f:FuncId}{args:List AV}{h:Heap}{K K':Out->Heap->Bool}(hs:Sem P f args h K)(hk:∀ o h',K o h'=true->K' o h'=true):Sem P f args h K':=
 ⟨hs.1,fun w0 μ w vs hg hv=>(hs.2 w0 μ w vs hg hv).mono fun _ _ hr=>hr.mono hk⟩
def aA(P:Program):jI:=fun f args h K=>@decide (Sem P f args h K) (Classical.propDecidable _)
theorem vJ(P:Program):fR P (aA P):=fun f args h K hh=>@of_decide_eq_true _ (Classical.propDecidable _) hh
theorem ah(hs:Sem P f args h K):aA P f args h K=true:=@_root_.decide_eq_true _ (Classical.propDecidable _) hs
theorem fR.UD{call:jI}(hc:fR P call)(hh:call f args h K=true):Sem P f args h K:=hc f args h K hh
theorem iJ.UD{F:xu}(hF:iJ P F){g:List AV->Heap->(Out->Heap->Bool)->Bool}(hg:F f=some g)(hh:g args h K=true):Sem P f args h K:=hF f g hg args h K hh
def yes(p:Prop):Bool:=@decide p (Classical.propDecidable _)
theorem ct{p:Prop}:yes p=true↔p:=@decide_eq_true_iff p (Classical.propDecidable _)
theorem LY:∃ r:(St->(AX->St->Bool)->Bool)->St->(AX->St->Bool)->Bool,∀ f s K,r f s K=f s K:=⟨fun f s K=>f s K,fun _ _ _=>rfl⟩
def Na:(St->(AX->St->Bool)->Bool)->St->(AX->St->Bool)->Bool:=Classical.choose LY
theorem xP(f:St->(AX->St->Bool)->Bool)(s:St)(K:AX->St->Bool):Na f s K=f s K:=Classical.choose_spec LY f s K
def cX(j:Bool)(b:St->(AX->St->Bool)->Bool)(K:AX->St->Bool):AX->St->Bool
 |.normal,s'=>@Bool.rec (fun _=>Bool) (b s' K) (Na b s' K) j
 |.exit id,s'=>K (.exit id) s'
 |.ret,s'=>K .ret s'
 |.panic v,s'=>K (.panic v) s'
theorem Ig(j:Bool)(b:St->(AX->St->Bool)->Bool)(K:AX->St->Bool)(s:St):cX j b K .normal s=b s K:=by
 cases j
 ·rfl
 ·exact xP b s K
def bg(id:Nat)(K:AX->St->Bool):AX->St->Bool
 |.normal,s'=>K .normal s'
 |.exit MO,s'=>@Bool.rec (fun _=>Bool) (K (.exit MO) s') (K .normal s') (Nat.beq MO id)
 |.ret,s'=>K .ret s'
 |.panic v,s'=>K (.panic v) s'
def ay(x:AV)(a b:Bool):Bool:=
 match x with
 |.bool t=>@Bool.rec (fun _=>Bool) b a t
 |_=>false
def Fj(I:Nat->St->Prop)(n:Nat)(K:AX->St->Bool):AX->St->Bool
 |.normal,s'=>yes (∃ m,m<n/\I m s')
 |.exit id,s'=>K (.exit id) s'
 |.ret,s'=>K .ret s'
 |.panic v,s'=>K (.panic v) s'
def bW(f:St->(AX->St->Bool)->Bool)(s:St)(K:AX->St->Bool):Bool:=
 yes (∃ I:Nat->St->Prop,(∃ n,I n s)/\∀ n s',I n s'->f s' (Fj I n K)=true)
def LZ(ops:List Oper)(j:Nat):Option Tmp:=match ops[j]? with|some g=>g.dst|none=>none
def O9(j:Nat):List Nat->Bool
 |[]=>false
 |k :: ks=>@Bool.rec (fun _=>Bool) (O9 j ks) true (Nat.beq j k)
def jM(P:Program)(call:jI)(ops:List Oper):List Oper->Nat->List Nat->St->(RS->Bool)->Bool
 |[],_,_,s,K=>K (.ok s)
 |o :: rest,i,sk,⟨env,n,defs,h⟩,K=>
  match o.guard with
  |none=>jb o.op P call env defs h fun
   |.ok v defs h=>ir env n o.dst v fun env=>jM P call ops rest (i+1) sk ⟨env,n,defs,h⟩ K
   |.panic v h=>K (.panic v ⟨env,n,defs,h⟩)
  |some (j,want)=>match LZ ops j with
   |none=>false
   |some d=>@Bool.rec (fun _=>Bool)
    (ay (env d)
     (@Bool.rec (fun _=>Bool) (ir (aa env d (.bool true)) n o.dst bI fun env=>jM P call ops rest (i+1) (i :: sk) ⟨env,n,defs,h⟩ K)
      (jb o.op P call (aa env d (.bool true)) defs h fun
       |.ok v defs h=>ir (aa env d (.bool true)) n o.dst v fun env=>jM P call ops rest (i+1) sk ⟨env,n,defs,h⟩ K
       |.panic v h=>K (.panic v ⟨aa env d (.bool true),n,defs,h⟩)) want)
     (@Bool.rec (fun _=>Bool) (jb o.op P call (aa env d (.bool false)) defs h fun
       |.ok v defs h=>ir (aa env d (.bool false)) n o.dst v fun env=>jM P call ops rest (i+1) sk ⟨env,n,defs,h⟩ K
       |.panic v h=>K (.panic v ⟨aa env d (.bool false),n,defs,h⟩))
      (ir (aa env d (.bool false)) n o.dst bI fun env=>jM P call ops rest (i+1) (i :: sk) ⟨env,n,defs,h⟩ K) want))
    (match env d with
     |.tuple _=>ir env n o.dst bI fun env=>jM P call ops rest (i+1) (i :: sk) ⟨env,n,defs,h⟩ K
     |_=>false) (O9 j sk)
def dJ(P:Program)(call:jI)(ops:List Oper)(ms:List Nat):List (Nat×Oper)->List Read->List Nat->St->(St->Bool)->Bool
 |[],_,_,s,K=>K s
 |p :: rest,lg,sk,⟨env,n,defs,h⟩,K=>
  @Option.rec (Nat×Bool) (fun _=>Bool)
   (match fc p.2.op with
   |.pure=>gI p.2.op P (evalArg env) h fun v _=>ir env n p.2.dst v fun eC=>dJ P call ops ms rest lg sk ⟨eC,n,defs,h⟩ K
   |.read=>gI p.2.op P (evalArg env) h fun v _=>ir env n p.2.dst v fun eC=>dJ P call ops ms rest (⟨p.1,p.2.op,env,v⟩ :: lg) sk ⟨eC,n,defs,h⟩ K
   |.alloc=>gI p.2.op P (evalArg env) h fun v h'=>ir env n p.2.dst v fun eC=>dJ P call ops ms rest lg sk ⟨eC,n,defs,h'⟩ K
   |.JO=>
    jb p.2.op P call env defs h fun
     |.ok v jJ h'=>if jt P ms p.1 h' lg then ir env n p.2.dst v fun eC=>dJ P call ops ms rest lg sk ⟨eC,n,jJ,h'⟩ K else false
     |.panic _ _=>false)
   (fun g=>match LZ ops g.1 with
    |none=>false
    |some d=>@Bool.rec (fun _=>Bool)
     (ay (env d)
      (@Bool.rec (fun _=>Bool) (ir (aa env d (.bool true)) n p.2.dst bI fun eC=>dJ P call ops ms rest lg (p.1 :: sk) ⟨eC,n,defs,h⟩ K)
       (match fc p.2.op with
       |.pure=>gI p.2.op P (evalArg (aa env d (.bool true))) h fun v _=>ir (aa env d (.bool true)) n p.2.dst v fun eC=>dJ P call ops ms rest lg sk ⟨eC,n,defs,h⟩ K
       |.read=>gI p.2.op P (evalArg (aa env d (.bool true))) h fun v _=>ir (aa env d (.bool true)) n p.2.dst v fun eC=>dJ P call ops ms rest (⟨p.1,p.2.op,aa env d (.bool true),v⟩ :: lg) sk ⟨eC,n,defs,h⟩ K
       |.alloc=>gI p.2.op P (evalArg (aa env d (.bool true))) h fun v h'=>ir (aa env d (.bool true)) n p.2.dst v fun eC=>dJ P call ops ms rest lg sk ⟨eC,n,defs,h'⟩ K
       |.JO=>
        jb p.2.op P call (aa env d (.bool true)) defs h fun
         |.ok v jJ h'=>if jt P ms p.1 h' lg then ir (aa env d (.bool true)) n p.2.dst v fun eC=>dJ P call ops ms rest lg sk ⟨eC,n,jJ,h'⟩ K else false
         |.panic _ _=>false) g.2)
      (@Bool.rec (fun _=>Bool)
       (match fc p.2.op with
       |.pure=>gI p.2.op P (evalArg (aa env d (.bool false))) h fun v _=>ir (aa env d (.bool false)) n p.2.dst v fun eC=>dJ P call ops ms rest lg sk ⟨eC,n,defs,h⟩ K
       |.read=>gI p.2.op P (evalArg (aa env d (.bool false))) h fun v _=>ir (aa env d (.bool false)) n p.2.dst v fun eC=>dJ P call ops ms rest (⟨p.1,p.2.op,aa env d (.bool false),v⟩ :: lg) sk ⟨eC,n,defs,h⟩ K
       |.alloc=>gI p.2.op P (evalArg (aa env d (.bool false))) h fun v h'=>ir (aa env d (.bool false)) n p.2.dst v fun eC=>dJ P call ops ms rest lg sk ⟨eC,n,defs,h'⟩ K
       |.JO=>
        jb p.2.op P call (aa env d (.bool false)) defs h fun
         |.ok v jJ h'=>if jt P ms p.1 h' lg then ir (aa env d (.bool false)) n p.2.dst v fun eC=>dJ P call ops ms rest lg sk ⟨eC,n,jJ,h'⟩ K else false
         |.panic _ _=>false)
       (ir (aa env d (.bool false)) n p.2.dst bI fun eC=>dJ P call ops ms rest lg (p.1 :: sk) ⟨eC,n,defs,h⟩ K) g.2))
     (match env d with
      |.tuple _=>ir env n p.2.dst bI fun eC=>dJ P call ops ms rest lg (p.1 :: sk) ⟨eC,n,defs,h⟩ K
      |_=>false) (O9 g.1 sk)) p.2.guard
def adM(K:AX->St->Bool):RS->Bool
 |.ok s'=>K .normal s'
 |.panic v s'=>K (.panic v) s'
def oA(P:Program)(call:jI):Code->St->(AX->St->Bool)->Bool
 |.skip,s,K=>K .normal s
 |.region _ ops draw,s,K=>
  @Bool.rec (fun _=>Bool) (jM P call ops.toList ops.toList 0 [] s (adM K))
   (af (HD ops.toList) fun p=>dJ P call ops.toList p.ms p.L [] [] s fun s'=>K .normal s') draw
 |.seq a b,s,K=>oA P call a s (cX (Vn a b) (oA P call b) K)
 |.cond c a b,s,K=>ay (evalArg s.env c) (oA P call a s K) (oA P call b s K)
 |.block id c,s,K=>oA P call c s (bg id K)
 |.loop c,s,K=>bW (oA P call c) s K
 |.exit id,s,K=>K (.exit id) s
 |.ret,s,K=>K .ret s
 |_,_,_=>false
theorem ux{d:Nat}{v:AV}(h:env d=v):aa env d v=env:=by
 funext t;rw [bK];by_cases e:t=d
 ·rw [if_pos e,e,h]
 ·rw [if_neg e]
theorem Fl{x:AV}{a b:Bool}(h:ay x a b=true):(x = .bool true/\a=true)\/(x = .bool false/\b=true):=by
 unfold ay at h;split at h
 ·rename_i t;cases t
  ·exact .inr ⟨rfl,h⟩
  ·exact .inl ⟨rfl,h⟩
 ·cases h
section
variable {P:Program} {w0 w:World} {μ μ':Mu} {h h':Heap} {s:St} {a:Act}
theorem Ck{ops:List Oper}{o:Oper}{j:Nat}{want:Bool}{d:Tmp}(hg:o.guard=some (j,want))(hd:LZ ops j=some d) :
  iQ ops o env=(match env d with|.bool b=>some (b==want)|.tuple _=>some false|_=>none):=by
 unfold iQ LZ at *;rw [hg];simp only;split at hd
 ·rename_i g hj;rw [hj];simp only [hd];rfl
 ·cases hd
theorem uy{ρ:Operand->AV}{op:Op}{hp:Heap}{K1 K2:AV->Heap->Bool}(hk:∀ v h',K1 v h'=true->K2 v h'=true)(hh:gI op P ρ hp K1=true):gI op P ρ hp K2=true:=by
 have val:∀ {o:Option AV},ku hp K1 o=true->ku hp K2 o=true:=by
  intro o h;cases o with
  |none=>exact h
  |some a=>exact hk _ _ h
 have both:∀ {o:Option (AV×Heap)},vE K1 o=true->vE K2 o=true:=by
  intro o h;cases o with
  |none=>exact h
  |some a=>exact hk _ _ h
 have heap:∀ {o:Option Heap},zW K1 o=true->zW K2 o=true:=by
  intro o h;cases o with
  |none=>exact h
  |some a=>exact hk _ _ h
 have bind:∀ {α:Type} {o:Option α} {f g:α->Bool},(∀ a,f a=true->g a=true)->af o f=true->af o g=true:=by
  intro α o f g hfg h;cases o with
  |none=>exact h
  |some a=>exact hfg _ h
 cases op<;>simp only [gI] at hh ⊢<;>try (first|exact hk _ _ hh|exact val hh|exact both hh|exact heap hh|exact bind (fun _ h=>val h) hh|exact bind (fun _ h=>both h) hh|exact bind (fun _ h=>heap h) hh|exact bind (fun _ h=>hk _ _ h) hh|(exfalso;simp at hh;done))
 case buildSlice t n ps=>unfold qM at hh ⊢;exact bind (fun _ h=>bind (fun _ h=>hk _ _ h) h) hh
 case binOp o t x y u=>
  unfold OH at hh ⊢;cases o<;>simp only at hh ⊢<;>first|exact val hh|exact bind (fun _ h=>val h) hh
 case makeFunc fn f c=>
  unfold BW at hh ⊢;cases fn<;>simp only at hh ⊢<;>first|exact hk _ _ hh|exact hh
 case makeMap t r=>
  unfold E6 at hh ⊢;cases r<;>simp only at hh ⊢<;>first|exact hk _ _ hh|exact hh
 case slice t x lo hi mx=>
  unfold Gp at hh ⊢;cases mx<;>simp only at hh ⊢<;>first|exact bind (fun _ h=>val h) hh|exact hh
 case call c=>
  obtain ⟨yS,args,ts⟩:=c;unfold sE at hh ⊢
  cases yS with
  |value f=>exact hh
  |invoke r m=>exact hh
  |builtin b=>
   simp only at hh ⊢;cases b<;>simp only [E7,J6,false_eq_true] at hh ⊢
   case append=>
    unfold yP at hh ⊢;split at hh
    ·exact bind (fun _ h=>both h) hh
    ·exact hh
   case copy=>
    unfold Gq at hh ⊢;split at hh
    ·exact bind (fun _ h=>both h) hh
    ·exact hh
   case len=>
    unfold J5 at hh ⊢;split at hh
    ·exact bind (fun _ h=>val h) hh
    ·exact hh
   case delete=>
    unfold yQ at hh ⊢;split at hh
    ·exact bind (fun _ h=>heap h) hh
    ·exact hh
   case min=>
    unfold uj at hh ⊢;split at hh
    ·exact val hh
    ·exact hh
   case max=>
    unfold uj at hh ⊢;split at hh
    ·exact val hh
    ·exact hh
theorem Ih{op:Op}{defs:List oV}{hp:Heap}{K1 K2:R->Bool}(hk:∀ r,K1 r=true->K2 r=true)(hh:jb op P (aA P) env defs hp K1=true):jb op P (aA P) env defs hp K2=true:=by
 have plain:∀ {op:Op},oW op P (aA P) env defs hp K1=true->oW op P (aA P) env defs hp K2=true:=fun h=>uy (fun _ _ h=>hk _ h) h;cases op<;>simp only [jb] at hh ⊢<;>try exact plain hh
 case call c=>
  obtain ⟨yS,args,ts⟩:=c
  cases yS with
  |builtin b=>exact plain hh
  |invoke r m=>exact plain hh
  |value f=>
   simp only [v7,Bp] at hh ⊢;split at hh
   ·refine ah ((vJ P).UD hh |>.mono fun o h' h=>?_);cases o<;>exact hk _ h
   ·exact hh
 case defer c=>
  obtain ⟨yS,args,ts⟩:=c
  cases yS with
  |builtin b=>exact hh
  |invoke r m=>exact hh
  |value f=>
   simp only [xo] at hh ⊢;split at hh
   ·exact hk _ hh
   ·exact hh
 case panic x=>
  simp only [xp] at hh ⊢;split at hh
  ·exact hk _ hh
  ·exact hh
 case next x b=>
  simp only [Gr] at hh ⊢;generalize xm b (evalArg env x) hp=o at hh ⊢
  cases o with
  |none=>exact hh
  |some L=>
   simp only [af] at hh ⊢
   induction L with
   |nil=>rfl
   |cons p L ih=>
    simp only [lK,and_eq_true] at hh ⊢;exact ⟨hk _ hh.1,ih hh.2⟩
theorem qc{n:Nat}{dst:Option Tmp}{v:AV}{k1 k2:Env->Bool}(hk:∀ e,k1 e=true->k2 e=true)(hh:ir env n dst v k1=true):ir env n dst v k2=true:=by
 cases dst with
 |none=>exact hk _ hh
 |some d=>
  simp only [ir] at hh ⊢
  cases hb:ble (d+1) n with
  |false=>rw [hb] at hh;cases hh
  |true=>rw [hb] at hh;exact hk _ hh
theorem jY{ops:List Oper}{ms:List Nat}{K:St->Bool}:∀ (L:List (Nat×Oper)) (lg:List Read) (sk:List Nat) (s:St),dJ P (aA P) ops ms L lg sk s K=true->fE P (aA P) ops ms L lg s K=true
 |[],lg,sk,s,hh=>hh
 |p :: rest,lg,sk,⟨env,n,defs,hp⟩,hh=>by
  have Kt:(match fc p.2.op with
   |.pure=>gI p.2.op P (evalArg env) hp fun v _=>ir env n p.2.dst v fun eC=>dJ P (aA P) ops ms rest lg sk ⟨eC,n,defs,hp⟩ K
   |.read=>gI p.2.op P (evalArg env) hp fun v _=>ir env n p.2.dst v fun eC=>dJ P (aA P) ops ms rest (⟨p.1,p.2.op,env,v⟩ :: lg) sk ⟨eC,n,defs,hp⟩ K
   |.alloc=>gI p.2.op P (evalArg env) hp fun v h'=>ir env n p.2.dst v fun eC=>dJ P (aA P) ops ms rest lg sk ⟨eC,n,defs,h'⟩ K
   |.JO=>
    jb p.2.op P (aA P) env defs hp fun
     |.ok v jJ h'=>if jt P ms p.1 h' lg then ir env n p.2.dst v fun eC=>dJ P (aA P) ops ms rest lg sk ⟨eC,n,jJ,h'⟩ K else false
     |.panic _ _=>false)=true->(match fc p.2.op with
   |.pure=>gI p.2.op P (evalArg env) hp fun v _=>ir env n p.2.dst v fun eC=>fE P (aA P) ops ms rest lg ⟨eC,n,defs,hp⟩ K
   |.read=>gI p.2.op P (evalArg env) hp fun v _=>ir env n p.2.dst v fun eC=>fE P (aA P) ops ms rest (⟨p.1,p.2.op,env,v⟩ :: lg) ⟨eC,n,defs,hp⟩ K
   |.alloc=>gI p.2.op P (evalArg env) hp fun v h'=>ir env n p.2.dst v fun eC=>fE P (aA P) ops ms rest lg ⟨eC,n,defs,h'⟩ K
   |.JO=>
    jb p.2.op P (aA P) env defs hp fun
     |.ok v jJ h'=>if jt P ms p.1 h' lg then ir env n p.2.dst v fun eC=>fE P (aA P) ops ms rest lg ⟨eC,n,jJ,h'⟩ K else false
     |.panic _ _=>false)=true:=by
   intro h;cases hk:fc p.2.op<;>rw [hk] at h<;>simp only at h ⊢
   ·exact uy (fun v h' h=>qc (fun e h=>jY rest _ _ _ h) h) h
   ·exact uy (fun v h' h=>qc (fun e h=>jY rest _ _ _ h) h) h
   ·exact uy (fun v h' h=>qc (fun e h=>jY rest _ _ _ h) h) h
   ·refine Ih (fun r h=>?_) h
    cases r with
    |ok v jJ h'=>
     simp only at h ⊢;split at h
     ·rename_i hs;rw [if_pos hs];exact qc (fun e h=>jY rest _ _ _ h) h
     ·cases h
    |panic v h'=>cases h
  have Cl:∀ sk',(ir env n p.2.dst bI fun eC=>dJ P (aA P) ops ms rest lg sk' ⟨eC,n,defs,hp⟩ K)=true->(ir env n p.2.dst bI fun eC=>fE P (aA P) ops ms rest lg ⟨eC,n,defs,hp⟩ K)=true:=
   fun sk' h=>qc (fun e h=>jY rest _ _ _ h) h
  simp only [dJ] at hh;simp only [fE]
  cases hg:p.2.guard with
  |none=>
   rw [hg] at hh;have hw:iQ ops p.2 env=some true:=by unfold iQ;rw [hg]
   rw [hw];exact Kt hh
  |some g=>
   obtain ⟨j,want⟩:=g;rw [hg] at hh;simp only at hh;split at hh
   ·cases hh
   ·rename_i d hd;have Cm:=Ck (env:=env) hg hd
    cases hm:O9 j sk with
    |true=>
     rw [hm] at hh;simp only at hh;split at hh
     ·rename_i vs hv;rw [hv] at Cm;rw [Cm];exact Cl _ hh
     ·cases hh
    |false=>
     rw [hm] at hh;simp only at hh;rcases Fl hh with ⟨hv,hh⟩|⟨hv,hh⟩
     ·rw [hv] at Cm;rw [ux hv] at hh;rw [Cm]
      cases want with
      |true=>exact Kt hh
      |false=>exact Cl _ hh
     ·rw [hv] at Cm;rw [ux hv] at hh;rw [Cm]
      cases want with
      |true=>exact Cl _ hh
      |false=>exact Kt hh
theorem GC{call:jI}(hc:fR P call){ops:Array Oper}{K:RS->Bool}{Q:Exit->Act->World->Prop}:∀ (l:List Oper) (i:Nat) (sk:List Nat) (s:St) (a:Act) (w:World) (μ:Mu),(∀ j o,l[j]?=some o->ops[i+j]?=some o) ->
  SR w0 μ s a w->(hl:yY w0 μ s.h w K Q)->jM P call ops.toList l i sk s K=true->wpOps P ops Q (range' i l.length) a w
 |[],i,sk,s,a,w,μ,hi,hs,hl,h=>by
  simp only [length_nil,range'_zero,wpOps];exact hl.ok _ _ _ _ h hs (Ext.refl _ _ _)
 |o :: rest,i,sk,s,a,w,μ,hi,hs,hl,h=>by
  have Ot:ops[i]?=some o:=by simpa using hi 0 o rfl
  obtain ⟨env,n,defs,hp⟩:=s;simp only [length_cons,range'_succ,wpOps,Ot]
  have uX:∀ j o',rest[j]?=some o'->ops[i+1+j]?=some o':=fun j o' hj=>by
   have:=hi (j+1) o' (by simpa using hj)
   rwa [show i+1+j=i+(j+1) by omega]
  have Kt:iQ ops.toList o env=some true->(jb o.op P call env defs hp fun
       |.ok v defs h=>ir env n o.dst v fun env=>jM P call ops.toList rest (i+1) sk ⟨env,n,defs,h⟩ K
       |.panic v h=>K (.panic v ⟨env,n,defs,h⟩))=true ->
    (if Region.wanted o (yielded ops a.tmps) then o.wp P a w (wpOps P ops Q (range' (i+1) rest.length)) Q\/(o.asks P a w/\LetsOut Q) else wpOps P ops Q (range' (i+1) rest.length) (a.put o.dst undef) w):=by
   intro hw hh;rw [kZ hs.env hw,if_pos rfl];refine .inl (Bx hs hc ⟨fun v jJ h' a' w' μ' hK gu hx=>?_,fun v vc h' w' μ' hK hv gu hx=>?_⟩ hh)
   ·exact GC hc rest (i+1) sk _ a' w' μ' uX gu (hl.after hx) (kT hK)
   ·exact hl.panic v vc _ a w' μ' hK hv gu hx
  have Cl:iQ ops.toList o env=some false->(ir env n o.dst bI fun env=>jM P call ops.toList rest (i+1) (i :: sk) ⟨env,n,defs,hp⟩ K)=true ->
    (if Region.wanted o (yielded ops a.tmps) then o.wp P a w (wpOps P ops Q (range' (i+1) rest.length)) Q\/(o.asks P a w/\LetsOut Q) else wpOps P ops Q (range' (i+1) rest.length) (a.put o.dst undef) w):=by
   intro hw hh;rw [kZ hs.env hw];simp only [false_eq_true,if_false];have gu:=hs.left o.dst (h':=hp) VR.bI hs.gC (Mu.le.refl μ);exact GC hc rest (i+1) (i :: sk) ⟨l8 env n o.dst bI,n,defs,hp⟩ _ w μ uX gu hl (kT hh)
  simp only [jM] at h;split at h
  ·rename_i hg;exact Kt (by unfold iQ;rw [hg]) h
  ·rename_i j want hg;split at h
   ·cases h
   ·rename_i d hd;have Cm:=Ck (env:=env) hg hd
    cases hm:O9 j sk with
    |true=>
     rw [hm] at h;simp only at h;split at h
     ·rename_i vs hv;rw [hv] at Cm;exact Cl Cm h
     ·cases h
    |false=>
     rw [hm] at h;simp only at h;rcases Fl h with ⟨hv,h⟩|⟨hv,h⟩
     ·rw [hv] at Cm;rw [ux hv] at h
      cases want with
      |true=>exact Kt Cm h
      |false=>exact Cl Cm h
     ·rw [hv] at Cm;rw [ux hv] at h
      cases want with
      |true=>exact Cl Cm h
      |false=>exact Kt Cm h
theorem Pb(hm:P.follows .mixedOrders=true):∀ (c:Code) (s:St) (a:Act) (w:World) (μ:Mu) (K:AX->St->Bool) (Q:Exit->Act->World->Prop),SR w0 μ s a w ->
  wq w0 μ s.h w K Q->oA P (aA P) c s K=true->c.wp P Q a w:=by
 have hc:=vJ P;intro c
 induction c with
 |skip=>intro s a w μ K Q hs hl h;exact wp_skip (hl _ _ _ _ _ _ h .normal hs (Ext.refl _ _ _))
 |region id ops draw=>
  intro s a w μ K Q hs hl h;simp only [oA] at h
  cases draw with
  |true=>
   simp only at h;obtain ⟨H9,hp,h⟩:=fF h;exact LW hm hc hp hs (fun s' a' w' μ' hK gu hx=>hl _ _ _ _ _ _ hK .normal gu hx) (jY _ _ _ _ h)
  |false=>
   simp only at h;refine wp_region ?_;have:=GC (Q:=Q) hc ops.toList 0 [] s a w μ (fun j o hj=>by rw [Nat.zero_add];simpa using hj) hs ⟨fun s' a' w' μ' hK gu hx=>hl _ _ _ _ _ _ hK .normal gu hx,fun v vc s' a' w' μ' hK hv gu hx=>hl _ _ _ _ _ _ hK (.panic v vc hv) gu hx⟩ h;rw [range_eq_range'];simpa using this
 |seq x y VE VF=>
  intro s a w μ K Q hs hl h;simp only [oA] at h;refine wp_seq (VE s a w μ _ _ hs (fun e ex s' a' w' μ' hK hq gu hx=>?_) h)
  cases hq with
  |normal=>exact VF s' a' w' μ' K Q gu (hl.after hx) (by rw [Ig] at hK;exact hK)
  |exit id=>exact hl _ _ _ _ _ _ hK (.exit id) gu hx
  |ret=>exact hl _ _ _ _ _ _ hK .ret gu hx
  |panic v vc hv=>exact hl _ _ _ _ _ _ hK (.panic v vc hv) gu hx
 |cond c x y VE VF=>
  intro s a w μ K Q hs hl h;simp only [oA,ay] at h;have hcv:=hs.eval c;split at h
  ·rename_i t e;rw [e] at hcv
   cases t with
   |true=>exact wp_cond_true hcv.iz (VE s a w μ K Q hs hl h)
   |false=>exact wp_cond_false hcv.iz (VF s a w μ K Q hs hl h)
  ·cases h
 |block id c ih=>
  intro s a w μ K Q hs hl h;simp only [oA] at h;refine wp_block (ih s a w μ _ _ hs (fun e ex s' a' w' μ' hK hq gu hx=>?_) h)
  cases hq with
  |normal=>exact hl _ _ _ _ _ _ hK .normal gu hx
  |exit MO=>
   simp only [Exit.inBlock];simp only [bg] at hK;by_cases e:MO=id
   ·subst e;rw [xO] at hK;rw [if_pos rfl];exact hl _ _ _ _ _ _ hK .normal gu hx
   ·rw [if_neg e]
    have hb:Nat.beq MO id=false:=by
     cases hq:Nat.beq MO id with
     |false=>rfl
     |true=>exact absurd (eq_of_beq_eq_true hq) e
    rw [hb] at hK;exact hl _ _ _ _ _ _ hK (.exit MO) gu hx
  |ret=>exact hl _ _ _ _ _ _ hK .ret gu hx
  |panic v vc hv=>exact hl _ _ _ _ _ _ hK (.panic v vc hv) gu hx
 |loop c ih=>
  intro s a w μ K Q hs hl h;simp only [oA,bW] at h;obtain ⟨I,⟨n0,hI0⟩,ki⟩:=ct.1 h;refine wp_loop_rounds (n0+1) ?_
  have key:∀ (N n:Nat) (s:St) (a:Act) (w:World) (μ:Mu),SR w0 μ s a w->wq w0 μ s.h w K Q->I n s->n<N->Code.rounds P c Q N a w:=by
   intro N
   induction N with
   |zero=>intro n s a w μ hs hl hi hn;omega
   |succ N ihn=>
    intro n s a w μ hs hl hi hn;rw [rounds_succ];refine ih s a w μ _ _ hs (fun e ex s' a' w' μ' hK hq gu hx=>?_) (ki n s hi)
    cases hq with
    |normal=>
     obtain ⟨m,XZ,Ii⟩:=ct.1 hK;exact ihn m s' a' w' μ' gu (hl.after hx) Ii (by omega)
    |exit id=>exact hl _ _ _ _ _ _ hK (.exit id) gu hx
    |ret=>exact hl _ _ _ _ _ _ hK .ret gu hx
    |panic v vc hv=>exact hl _ _ _ _ _ _ hK (.panic v vc hv) gu hx
  exact key (n0+1) n0 s a w μ hs hl hI0 (by omega)
 |exit id=>intro s a w μ K Q hs hl h;exact wp_exit (hl _ _ _ _ _ _ h (.exit id) hs (Ext.refl _ _ _))
 |ret=>intro s a w μ K Q hs hl h;exact wp_ret (hl _ _ _ _ _ _ h .ret hs (Ext.refl _ _ _))
 |_=>intros;rename_i h;simp [oA] at h
def eH:pL:=fun _=>none
theorem bO(P:Program):Cj P eH:=fun f g h=>by cases h
theorem b8(hm:P.follows .mixedOrders=true){D:pL}(hD:Cj P D){fn:Func}{c:Code}(Ou:P.funcs[f]?=some fn)(hb:fn.body=some c)(Pc:fn.name≠ "runtime.NumGoroutine")
  (hlen:args.length<=fn.ntmps)
  (hh:oA P (aA P) c ⟨aC args,fn.ntmps,[],h⟩ (aS P D fn.results.toList K)=true):Sem P f args h K:=by
 refine ⟨⟨fn,c,Ou,hb,Pc⟩,fun w0 μ w vs hg hv=>?_⟩;refine calls_of_wp_defers Ou hb ?_;refine Pb (w0:=w0) hm c ⟨aC args,fn.ntmps,[],h⟩ _ w μ _ _ ⟨yZ hv hlen,.nil,hg⟩ (fun e ex s' a' w' μ' hK hq gu hx=>?_) hh
 cases hq with
 |normal=>exact mB hD _ _ none none s' a' w' μ' gu.env gu.defs gu.gC .none hx hK
 |ret=>exact mB hD _ _ none none s' a' w' μ' gu.env gu.defs gu.gC .none hx hK
 |exit id=>cases hK
 |panic v vc hv=>exact mB hD _ _ (some v) (some vc) s' a' w' μ' gu.env gu.defs gu.gC (.some hv) hx hK
end
end
end Go.AM
namespace Go.AM
open List Nat Bool Option
open Go Go.RowKit
noncomputable section
variable {old:Bool} {h:Heap}
def AV.scalar:AV->Bool
 |.undef|.bool _|.int _ _|.str _|.ey|.ax|.jH|.mY|.pJ=>true
 |_=>false
mutual
def AV.pure:AV->Bool
 |.ptr _ _|.slice _ _ _ _|.map _=>false
 |.dO cs _=>AV.cN cs
 |.au cs _ _ _=>AV.cN cs
 |.func _ a b=>AV.cN a&&AV.cN b
 |.iface _ v=>AV.pure v
 |.agg cs=>AV.cN cs
 |.tuple cs=>AV.cN cs
 |_=>true
def AV.cN:List AV->Bool
 |[]=>true
 |a :: as=>AV.pure a&&AV.cN as
end
theorem AV.lC:∀ {l:List AV},AV.cN l=true->∀ {i:Nat} {x:AV},l[i]?=some x->x.pure=true
 |a :: l,h,0,x,e=>by simp [AV.cN] at h;simp at e;subst e;exact h.1
 |a :: l,h,i+1,x,e=>by simp [AV.cN] at h;exact AV.lC h.2 (by simpa using e)
 |[],h,i,x,e=>by simp at e
theorem AV.GD{l m:List AV}(h:AV.cN l=true)(k:AV.cN m=true):AV.cN (l++m)=true:=by
 induction l with
 |nil=>exact k
 |cons a l ih=>simp only [AV.cN,and_eq_true,cons_append] at h ⊢;exact ⟨h.1,ih h.2⟩
inductive Fz (old:Bool) (h:Heap):AV->AV->Prop where
 |scalar (x:AV) (hx:x.scalar=true):Fz old h x x
 |dO (cs ou:List AV) (off:Nat) (ho:old=true) (hl:cs.length=ou.length) (hr:∀ (i:Nat) (x y:AV),cs[i]?=some x->ou[i]?=some y->Fz old h x y):Fz old h (.dO cs off) (.dO ou off)
 |au (cs ou:List AV) (off len sz:Nat) (ho:old=true) (hl:cs.length=ou.length) (hr:∀ (i:Nat) (x y:AV),cs[i]?=some x->ou[i]?=some y->Fz old h x y):Fz old h (.au cs off len sz) (.au ou off len sz)
 |ptr (b off:Nat) (cs ou:List AV) (hb:h.get b=some (.cells cs)) (hl:cs.length=ou.length) (hr:∀ (i:Nat) (x y:AV),cs[i]?=some x->ou[i]?=some y->Fz old h x y):Fz old h (.ptr b off) (.dO ou off)
 |slice (b off len sz:Nat) (cs ou:List AV) (hb:h.get b=some (.cells cs)) (hl:cs.length=ou.length) (hr:∀ (i:Nat) (x y:AV),cs[i]?=some x->ou[i]?=some y->Fz old h x y):Fz old h (.slice b off len sz) (.au ou off len sz)
 |func (f:FuncId) (xs ys Yc Xm:List AV) (h1:xs.length=Yc.length) (h2:ys.length=Xm.length) (r1:∀ (i:Nat) (x y:AV),xs[i]?=some x->Yc[i]?=some y->Fz old h x y)
   (r2:∀ (i:Nat) (x y:AV),ys[i]?=some x->Xm[i]?=some y->Fz old h x y):Fz old h (.func f xs ys) (.func f Yc Xm)
 |iface (t:TypeId) (x y:AV) (hr:Fz old h x y):Fz old h (.iface t x) (.iface t y)
 |agg (cs ou:List AV) (hl:cs.length=ou.length) (hr:∀ (i:Nat) (x y:AV),cs[i]?=some x->ou[i]?=some y->Fz old h x y):Fz old h (.agg cs) (.agg ou)
 |tuple (cs ou:List AV) (hl:cs.length=ou.length) (hr:∀ (i:Nat) (x y:AV),cs[i]?=some x->ou[i]?=some y->Fz old h x y):Fz old h (.tuple cs) (.tuple ou)
structure lF (old:Bool) (h:Heap) (cs ou:List AV):Prop where
 len:cs.length=ou.length
 rel:∀ (i:Nat) (x y:AV),cs[i]?=some x->ou[i]?=some y->Fz old h x y
theorem lF.nil:lF old h [] []:=⟨rfl,by simp⟩
theorem lF.cons{x y:AV}{xs ys:List AV}(h1:Fz old h x y)(h2:lF old h xs ys):lF old h (x :: xs) (y :: ys):=
 ⟨by simp [h2.len],fun i u v a b=>by
  cases i with
  |zero=>simp at a b;subst a;subst b;exact h1
  |succ i=>simp at a b;exact h2.rel i u v a b⟩
theorem lF.append{xs ys us vs:List AV}(h1:lF old h xs us)(h2:lF old h ys vs):lF old h (xs++ys) (us++vs):=by
 induction xs generalizing us with
 |nil=>cases us with
  |nil=>exact h2
  |cons u us=>exact absurd h1.len (by simp)
 |cons x xs ih=>cases us with
  |nil=>exact absurd h1.len (by simp)
  |cons u us=>exact .cons (h1.rel 0 x u rfl rfl) (ih ⟨by simpa using h1.len,fun i a b p q=>h1.rel (i+1) a b (by simpa using p) (by simpa using q)⟩)
mutual
theorem Fz.dP{h:Heap}:∀ {x:AV},x.pure=true->Fz true h x x
 |.undef,_=>.scalar _ rfl
 |.bool _,_=>.scalar _ rfl
 |.int _ _,_=>.scalar _ rfl
 |.str _,_=>.scalar _ rfl
 |.ey,_=>.scalar _ rfl
 |.ax,_=>.scalar _ rfl
 |.jH,_=>.scalar _ rfl
 |.mY,_=>.scalar _ rfl
 |.pJ,_=>.scalar _ rfl
 |.dO cs off,hp=>.dO cs cs off rfl rfl (lF.dP hp).rel
 |.au cs off len sz,hp=>.au cs cs off len sz rfl rfl (lF.dP hp).rel
 |.func f a b,hp=>by
  simp only [AV.pure,and_eq_true] at hp;exact .func f a b a b rfl rfl (lF.dP hp.1).rel (lF.dP hp.2).rel
 |.iface t x,hp=>.iface t x x (Fz.dP hp)
 |.agg cs,hp=>.agg cs cs rfl (lF.dP hp).rel
 |.tuple cs,hp=>.tuple cs cs rfl (lF.dP hp).rel
 |.ptr _ _,hp=>by cases hp
 |.slice _ _ _ _,hp=>by cases hp
 |.map _,hp=>by cases hp
theorem lF.dP{h:Heap}:∀ {l:List AV},AV.cN l=true->lF true h l l
 |[],_=>.nil
 |a :: l,hp=>by
  simp only [AV.cN,and_eq_true] at hp;exact .cons (Fz.dP hp.1) (lF.dP hp.2)
end
section
variable {P:Program} {w0 w w':World} {μ μ':Mu} {h h':Heap}
def Mu.JS(μ:Mu)(w:World)(c:Nat):Option (List Value):=
 match μ.z c with
 |some vs=>some vs
 |none=>@ite _ (∃ b k,μ b=some k/\k.c=c) (Classical.propDecidable _) (match w.heap[c]? with|some (.cells arr _ _)=>some arr.toList|_=>none) none
theorem Mu.xQ{c:Nat}{vs:List Value}(hz:μ.z c=some vs):μ.JS w c=some vs:=by unfold Mu.JS;rw [hz]
theorem Mu.RR{b:Nat}{k:Gt}(hb:μ b=some k)(hz:μ.z k.c=none){arr:Array Value}{e:TypeId}{fr:Nat×Nat}(hc:w.heap[k.c]?=some (.cells arr e fr)):μ.JS w k.c=some arr.toList:=by
 unfold Mu.JS;rw [hz];simp only;rw [if_pos ⟨b,k,hb,rfl⟩,hc]
theorem Mu.L7{c:Nat}{vs:List Value}(h:μ.JS w c=some vs):μ.z c=some vs\/((∃ b k,μ b=some k/\k.c=c)/\∃ arr e fr,w.heap[c]?=some (.cells arr e fr)/\arr.toList=vs):=by
 unfold Mu.JS at h;split at h
 ·rename_i vs' hz;cases h;exact .inl hz
 ·split at h
  ·rename_i hex;split at h
   ·rename_i arr e fr hc;cases h;exact .inr ⟨hex,arr,e,fr,hc,rfl⟩
   ·cases h
  ·cases h
def Mu.GF(μ μ':Mu)(w w':World):Mu:=⟨μ.m,fun c=>@ite _ ((∃ vs,μ.z c=some vs)\/w.heap.size<=c) (Classical.propDecidable _) (μ'.JS w' c) none⟩
theorem Fm(LU:Good w0 μ' h' w'){ν:Mu}(VI:∀ b k,μ' b=some k->∀ vs,μ'.JS w' k.c=some vs->ν.z k.c=some vs)(hold:old=true->∀ c vs,μ'.z c=some vs->ν.z c=some vs){x y:AV}(hf:Fz old h' x y):∀ v,VR w0 μ' x v->VR w0 ν y v:=by
 have RT:∀ b k cs,μ' b=some k->h'.get b=some (.cells cs)->∃ vs:List Value,vs.length=cs.length/\(ν.z k.c).isSome=true/\(∀ (i:Nat) (v:Value),vs[i]?=some v->ν.cell k.c (k.base+i)=some v) /\
   ∀ (i:Nat) (x:AV) (v:Value),cs[i]?=some x->vs[i]?=some v->VR w0 μ' x v:=by
  intro b k cs hb ho;obtain ⟨arr,e,fr,h1,h2,h3,h4,h5⟩:=LU.obj b k _ hb ho;have hz:ν.z k.c=some arr.toList:=VI b k hb _ (Mu.RR hb (LU.apart b k hb) h1);refine ⟨(arr.toList.drop k.base).take cs.length,by simp;omega,by rw [hz];rfl,fun i v hi=>?_,fun i x v hx hi=>?_⟩
  ·rw [getElem?_take] at hi;split at hi
   ·rw [getElem?_drop] at hi;unfold Mu.cell;rw [hz];exact hi
   ·cases hi
  ·obtain ⟨v',Fo,Ov⟩:=h5 i x hx;rw [getElem?_take] at hi;split at hi
   ·rw [getElem?_drop,Array.getElem?_toList,Fo] at hi;cases hi;exact Ov
   ·cases hi
 have rows:∀ {cs ou:List AV} {vs:List Value},cs.length=ou.length->cs.length=vs.length->(∀ (i:Nat) (x y:AV),cs[i]?=some x->ou[i]?=some y->∀ v,VR w0 μ' x v->VR w0 ν y v) ->
   (∀ (i:Nat) (x:AV) (v:Value),cs[i]?=some x->vs[i]?=some v->VR w0 μ' x v)->∀ (i:Nat) (y:AV) (v:Value),ou[i]?=some y->vs[i]?=some v->VR w0 ν y v:=by
  intro cs ou vs hl Nb ih hr i y v hy hv;have hi:i<ou.length:=(kg.1 hy).1;have hx:cs[i]?=some (cs[i]'(by omega)):=eA (by omega);exact ih i _ y hx hy v (hr i _ v hx hv)
 induction hf with
 |scalar x hx=>
  intro v hv;cases hv<;>simp only [AV.scalar,false_eq_true,reduceCtorEq] at hx<;>constructor
 |dO cs ou off ho hl hr ih=>
  intro v hv;cases hv;rename_i g o vs hg hv Ca vF;refine .dO ou off g o vs ?_ (by omega) (fun i v hi=>?_) (rows hl Ca ih vF)
  ·trivial
  ·have:=hv i v hi;unfold Mu.cell at this ⊢;obtain ⟨zs,hz,Bz⟩:=bind_eq_some_iff.1 this;rw [hold ho _ _ hz];exact Bz
 |au cs ou off len sz ho hl hr ih=>
  intro v hv;cases hv;rename_i cap a g o vs hg hv Ca vF ha hc;refine .au ou off len sz cap a g o vs ?_ (by omega) (fun i v hi=>?_) (rows hl Ca ih vF) hc ha
  ·trivial
  ·have:=hv i v hi;unfold Mu.cell at this ⊢;obtain ⟨zs,hz,Bz⟩:=bind_eq_some_iff.1 this;rw [hold ho _ _ hz];exact Bz
 |ptr b off cs ou hb hl hr ih=>
  intro v hv;cases hv;rename_i k hk;obtain ⟨vs,q1,q2,q3,q4⟩:=RT b k cs hk hb;exact .dO ou off k.c k.base vs trivial (by omega) q3 (rows hl (by omega) ih q4)
 |slice b off len sz cs ou hb hl hr ih=>
  intro v hv;cases hv;rename_i cap a k hk hc ha;obtain ⟨vs,q1,q2,q3,q4⟩:=RT b k cs hk hb;exact .au ou off len sz cap a k.c k.base vs trivial (by omega) q3 (rows hl (by omega) ih q4) hc (fun h0=>(ha h0).1)
 |func f xs ys Yc Xm h1 h2 r1 r2 XP XQ=>
  intro v hv;cases hv;rename_i us vs g1 q1 g2 q2;exact .func f Yc Xm us vs (by omega) (by omega) (rows h1 g1 XP q1) (rows h2 g2 XQ q2)
 |iface t x y hr ih=>
  intro v hv;cases hv;rename_i v hv;exact .iface t y v (ih v hv)
 |agg cs ou hl hr ih=>
  intro v hv;cases hv;rename_i vs Ca vF;exact .agg ou vs (by omega) (rows hl Ca ih vF)
 |tuple cs ou hl hr ih=>
  intro v hv;cases hv;rename_i vs Ca vF;exact .tuple ou vs (by omega) (rows hl Ca ih vF)
theorem Fp{ν:Mu}(hν:ν.m=fun _=>none)(hg:Good w0 μ h w)(LU:Good w0 μ' h' w')(hx:Ext ν Heap.empty w μ' h' w')(hz:∀ c vs,μ.z c=some vs->ν.z c=some vs) :
  Good w0 (μ.GF μ' w w') h w'/\Ext μ h w (μ.GF μ' w w') h w':=by
 have hf:∀ k,k<w.heap.size->w'.heap[k]?=w.heap[k]?:=fun k hk=>hx.frame k hk (by simp [hν])
 have oU:∀ c vs,(μ.GF μ' w w').z c=some vs->μ.z c=some vs\/w.heap.size<=c:=by
  intro c vs hc;have Ee:@ite _ ((∃ vs,μ.z c=some vs)\/w.heap.size<=c) (Classical.propDecidable _) (μ'.JS w' c) none=some vs:=hc;split at Ee
  ·rename_i hor;rcases hor with ⟨vs',hv⟩|Rc
   ·rw [Mu.xQ (hx.mono.yM _ _ (hz _ _ hv))] at Ee;cases Ee;exact .inl hv
   ·exact .inr Rc
  ·cases Ee
 have Yd:∀ c vs,μ.z c=some vs->(μ.GF μ' w w').z c=some vs:=by
  intro c vs hv;show @ite _ ((∃ vs,μ.z c=some vs)\/w.heap.size<=c) (Classical.propDecidable _) (μ'.JS w' c) none=some vs;rw [if_pos (.inl ⟨vs,hv⟩)];exact Mu.xQ (hx.mono.yM _ _ (hz _ _ hv))
 have hle:μ.le (μ.GF μ' w w'):=⟨fun _ _ h=>h,Yd⟩
 refine ⟨⟨LU.below,hg.clean,hg.fresh,fun b k hb=>?_,fun c vs hc=>?_,fun b k hb=>?_,fun b k o hb ho=>?_,hg.inj⟩,⟨hle,fun k hk _=>hf k hk,fun _ _ h=>.inl h,hx.size,dM _,fun _ _ _=>rfl,fun _ _ h=>.inl h,oU⟩⟩
 ·have:=hg.own b k hb;have:=hx.size;omega
 ·have Ee:@ite _ ((∃ vs,μ.z c=some vs)\/w.heap.size<=c) (Classical.propDecidable _) (μ'.JS w' c) none=some vs:=hc;split at Ee
  ·rcases Mu.L7 Ee with h1|⟨_,h1⟩
   ·exact LU.yM c vs h1
   ·exact h1
  ·cases Ee
 ·cases hq:(μ.GF μ' w w').z k.c with
  |none=>rfl
  |some vs=>
   have eW:μ b=some k:=hb;rcases oU _ _ hq with h1|h1
   ·rw [hg.apart b k eW] at h1;cases h1
   ·have:=(hg.own b k eW).2;omega
 ·have eW:μ b=some k:=hb;rw [hf _ (hg.own b k eW).2];exact nB.mono hle (hg.obj b k o eW ho)
theorem VR.RU(hz:∀ c vs,μ.z c=some vs->μ'.z c=some vs){x:AV}{v:Value}(hv:VR w0 μ x v)(hp:x.pure=true):VR w0 μ' x v:=by
 have L8:∀ g,(μ.z g).isSome=true->(μ'.z g).isSome=true:=fun g hg=>by
  obtain ⟨zs,h1⟩:=isSome_iff_exists.1 hg;rw [hz _ _ h1];rfl
 have hcell:∀ g i v,μ.cell g i=some v->μ'.cell g i=some v:=fun g i v hc=>by
  unfold Mu.cell at hc ⊢;obtain ⟨zs,h1,h2⟩:=bind_eq_some_iff.1 hc;rw [hz _ _ h1];exact h2
 induction hv with
 |undef v=>exact .undef v
 |bool b=>exact .bool b
 |int k n=>exact .int k n
 |str s=>exact .str s
 |ey=>exact .ey
 |ptr b off k hk=>cases hp
 |dO cs off g o vs hg hl hv hr ih=>exact .dO cs off g o vs trivial hl (fun i v h=>hcell _ _ _ (hv i v h)) (fun i x v hx hv=>ih i x v hx hv (AV.lC hp hx))
 |ax=>exact .ax
 |slice b off len sz cap a k hk hc ha=>cases hp
 |au cs off len sz cap a g o vs hg hl hv hr hc ha ih=>exact .au cs off len sz cap a g o vs trivial hl (fun i v h=>hcell _ _ _ (hv i v h)) (fun i x v hx hv=>ih i x v hx hv (AV.lC hp hx)) hc ha
 |jH=>exact .jH
 |map b k hk=>cases hp
 |mY=>exact .mY
 |func f xs ys us vs h1 h2 r1 r2 XP XQ=>
  simp only [AV.pure,and_eq_true] at hp;exact .func f xs ys us vs h1 h2 (fun i x v hx hv=>XP i x v hx hv (AV.lC hp.1 hx)) (fun i x v hx hv=>XQ i x v hx hv (AV.lC hp.2 hx))
 |pJ=>exact .pJ
 |iface t x v h ih=>exact .iface t x v (ih hp)
 |agg cs vs hl hr ih=>exact .agg cs vs hl (fun i x v hx hv=>ih i x v hx hv (AV.lC hp hx))
 |tuple cs vs hl hr ih=>exact .tuple cs vs hl (fun i x v hx hv=>ih i x v hx hv (AV.lC hp hx))
theorem L9{ν:Mu}(hν:ν.m=fun _=>none)(LU:Good w0 μ' h' w')(hx:Ext ν Heap.empty w μ' h' w')(hz:old=true->∀ c vs,ν.z c=some vs->μ.z c=some vs){x y:AV}(hf:Fz old h' x y){v:Value}(hv:VR w0 μ' x v) :
  VR w0 (μ.GF μ' w w') y v:=by
 have key:∀ c vs,μ'.JS w' c=some vs->((∃ vs,μ.z c=some vs)\/w.heap.size<=c)->(μ.GF μ' w w').z c=some vs:=by
  intro c vs hi hor;show @ite _ ((∃ vs,μ.z c=some vs)\/w.heap.size<=c) (Classical.propDecidable _) (μ'.JS w' c) none=some vs;rw [if_pos hor];exact hi
 refine Fm LU (ν:=μ.GF μ' w w') (fun b k hb vs hi=>key _ _ hi (.inr ?_)) (fun ho c vs hc=>key _ _ (Mu.xQ hc) ?_) hf v hv
 ·rcases hx.new b k hb with h1|h1|⟨b0,k0,h1,_⟩
  ·rw [hν] at h1;cases h1
  ·exact h1
  ·rw [hν] at h1;cases h1
 ·rcases hx.xy c vs hc with h1|h1
  ·exact .inl ⟨vs,hz ho _ _ h1⟩
  ·exact .inr h1
theorem Sem.frozen{f:FuncId}{args:List AV}{K0 K:Out->Heap->Bool}(hs:Sem P f args Heap.empty K0)(hp:AV.cN args=true)
  (hk:∀ o h',K0 o h'=true->∃ v r,o = .ret v/\Fz true h' v r/\K (.ret r) h=true):Sem P f args h K:=by
 refine ⟨hs.1,fun w0 μ w vs hg hv=>?_⟩;have D2:dY w0 μ.bare args vs:=⟨hv.len,fun i x v hx E9=>VR.RU (μ:=μ) (μ':=μ.bare) (fun _ _ h=>h) (hv.rel i x v hx E9) (AV.lC hp hx)⟩
 refine (hs.2 w0 μ.bare w vs hg.nothing D2).mono fun e w' hr=>?_
 cases e with
 |returned vc=>
  obtain ⟨v,h',μ',k1,k2,k3,k4⟩:=hr;obtain ⟨v',r,he,hf,hK⟩:=hk _ _ k1;cases he;obtain ⟨g1,g2⟩:=Fp rfl hg k3 k4 (fun _ _ h=>h);exact ⟨r,h,_,hK,L9 (μ:=μ) rfl k3 k4 (fun _ _ _ h=>h) hf k2,g1,g2⟩
 |panicked c=>
  obtain ⟨v,vc,h',μ',k1,_⟩:=hr;obtain ⟨v',r,he,_⟩:=hk _ _ k1;cases he
 |outgrown=>exact hr.elim
theorem Good.adO(hg:Good w0 μ h w):Good w0 ⟨fun _=>none,μ.JS w⟩ Heap.empty w:=
 ⟨hg.below,Heap.sR,by simp,by simp,fun c vs hc=>by
  rcases Mu.L7 hc with h1|⟨_,h1⟩
  ·exact hg.yM c vs h1
  ·exact h1,by simp,by simp,by simp⟩
theorem Sem.VJ{f:FuncId}{args vK:List AV}{K0 K:Out->Heap->Bool}(hs:Sem P f vK Heap.empty K0)(hp:lF true h args vK)
  (hk:∀ o h',K0 o h'=true->∃ v r,o = .ret v/\Fz false h' v r/\K (.ret r) h=true):Sem P f args h K:=by
 refine ⟨hs.1,fun w0 μ w vs hg hv=>?_⟩
 have D2:dY w0 ⟨fun _=>none,μ.JS w⟩ vK vs:=by
  refine ⟨by rw [<- hp.len];exact hv.len,fun i y v hy E9=>?_⟩;have hi:i<vK.length:=(kg.1 hy).1;have hx:args[i]?=some (args[i]'(by rw [hp.len];exact hi)):=eA _;exact Fm hg (ν:=⟨fun _=>none,μ.JS w⟩) (fun _ _ _ _ h=>h) (fun _ c vs h=>Mu.xQ h) (hp.rel i _ y hx hy) v (hv.rel i _ v hx E9)
 refine (hs.2 w0 _ w vs hg.adO D2).mono fun e w' hr=>?_
 cases e with
 |returned vc=>
  obtain ⟨v,h',μ',k1,k2,k3,k4⟩:=hr;obtain ⟨v',r,he,hf,hK⟩:=hk _ _ k1;cases he;obtain ⟨g1,g2⟩:=Fp rfl hg k3 k4 (fun c vs h=>Mu.xQ h);exact ⟨r,h,_,hK,L9 (μ:=μ) rfl k3 k4 (fun h=>by cases h) hf k2,g1,g2⟩
 |panicked c=>
  obtain ⟨v,vc,h',μ',k1,_⟩:=hr;obtain ⟨v',r,he,_⟩:=hk _ _ k1;cases he
 |outgrown=>exact hr.elim
end
end
end Go.AM
namespace Go.AM
open List Nat Bool Option
open Go Go.RowKit
noncomputable section
def y7(f:AV->Option AV):List AV->Option (List AV)
 |[]=>some []
 |x :: xs=>match f x with
  |none=>none
  |some y=>match y7 f xs with
   |none=>none
   |some ys=>some (y :: ys)
def jZ(old:Bool)(h:Heap):Nat->AV->Option AV
 |0,_=>none
 |n+1,x=>match x with
  |.ptr b off=>(match h.get b with
   |some (.cells cs)=>(match y7 (jZ old h n) cs with|some ds=>some (.dO ds off)|none=>none)
   |_=>none)
  |.slice b off len sz=>(match h.get b with
   |some (.cells cs)=>(match y7 (jZ old h n) cs with|some ds=>some (.au ds off len sz)|none=>none)
   |_=>none)
  |.dO cs off=>@Bool.rec (fun _=>Option AV) none (match y7 (jZ old h n) cs with|some ds=>some (.dO ds off)|none=>none) old
  |.au cs off len sz=>@Bool.rec (fun _=>Option AV) none (match y7 (jZ old h n) cs with|some ds=>some (.au ds off len sz)|none=>none) old
  |.func f a b=>(match y7 (jZ old h n) a with
   |none=>none
   |some a'=>match y7 (jZ old h n) b with
    |none=>none
    |some b'=>some (.func f a' b'))
  |.iface t v=>(match jZ old h n v with|some w=>some (.iface t w)|none=>none)
  |.agg cs=>(match y7 (jZ old h n) cs with|some ds=>some (.agg ds)|none=>none)
  |.tuple cs=>(match y7 (jZ old h n) cs with|some ds=>some (.tuple ds)|none=>none)
  |.map _=>none
  |x=>some x
theorem mN{old:Bool}{h:Heap}{f:AV->Option AV}(hf:∀ x y,f x=some y->Fz old h x y):∀ {xs ys:List AV},y7 f xs=some ys->lF old h xs ys
 |[],ys,e=>by simp only [y7,Option.some.injEq] at e;subst e;exact .nil
 |x :: xs,ys,e=>by
  simp only [y7] at e;split at e
  ·cases e
  ·rename_i y hy;split at e
   ·cases e
   ·rename_i Xm XS;cases e;exact .cons (hf _ _ hy) (mN hf XS)
theorem qR{old:Bool}{h:Heap}:∀ (n:Nat) (x y:AV),jZ old h n x=some y->Fz old h x y
 |0,x,y,e=>by cases e
 |n+1,x,y,e=>by
  have ih:=fun x y=>qR (old:=old) (h:=h) n x y;cases x<;>simp only [jZ,Option.some.injEq,reduceCtorEq] at e
  case undef=>subst e;exact .scalar _ rfl
  case bool=>subst e;exact .scalar _ rfl
  case int=>subst e;exact .scalar _ rfl
  case str=>subst e;exact .scalar _ rfl
  case ey=>subst e;exact .scalar _ rfl
  case ax=>subst e;exact .scalar _ rfl
  case jH=>subst e;exact .scalar _ rfl
  case mY=>subst e;exact .scalar _ rfl
  case pJ=>subst e;exact .scalar _ rfl
  case ptr b off=>
   split at e
   ·rename_i cs hb;split at e
    ·rename_i ds hd;cases e;have:=mN ih hd;exact .ptr b off cs ds hb this.len this.rel
    ·cases e
   ·cases e
  case slice b off len sz=>
   split at e
   ·rename_i cs hb;split at e
    ·rename_i ds hd;cases e;have:=mN ih hd;exact .slice b off len sz cs ds hb this.len this.rel
    ·cases e
   ·cases e
  case dO cs off=>
   cases ho:old with
   |false=>rw [ho] at e;cases e
   |true=>
    rw [<- ho];rw [ho] at e;simp only at e;split at e
    ·rename_i ds hd;cases e;rw [<- ho] at hd;have:=mN ih hd;exact .dO cs ds off ho this.len this.rel
    ·cases e
  case au cs off len sz=>
   cases ho:old with
   |false=>rw [ho] at e;cases e
   |true=>
    rw [<- ho];rw [ho] at e;simp only at e;split at e
    ·rename_i ds hd;cases e;rw [<- ho] at hd;have:=mN ih hd;exact .au cs ds off len sz ho this.len this.rel
    ·cases e
  case func f a b=>
   split at e
   ·cases e
   ·rename_i a' ha;split at e
    ·cases e
    ·rename_i b' hb;cases e;have h1:=mN ih ha;have h2:=mN ih hb;exact .func f a b a' b' h1.len h2.len h1.rel h2.rel
  case iface t v=>
   split at e
   ·rename_i w hw;cases e;exact .iface t v w (ih _ _ hw)
   ·cases e
  case agg cs=>
   split at e
   ·rename_i ds hd;cases e;have:=mN ih hd;exact .agg cs ds this.len this.rel
   ·cases e
  case tuple cs=>
   split at e
   ·rename_i ds hd;cases e;have:=mN ih hd;exact .tuple cs ds this.len this.rel
   ·cases e
def cA(old:Bool)(n:Nat)(r:AV):Out->Heap->Bool
 |.ret v,h=>(match jZ old h n v with|some r'=>AV.beq r' r|none=>false)
 |_,_=>false
def iS(a0:List AV)(r:AV):List AV->Heap->(Out->Heap->Bool)->Bool:=fun args h K=>
 AV.xk args a0&&K (.ret r) h
def dH(n:Nat)(a0:List AV)(r:AV):List AV->Heap->(Out->Heap->Bool)->Bool:=fun args h K=>
 match y7 (jZ true h n) args with
 |some as=>AV.xk as a0&&K (.ret r) h
 |none=>false
theorem cK{P:Program}{call:jI}(hs:fR P call){f:FuncId}{a0:List AV}{n:Nat}{r:AV}(hp:AV.cN a0=true)(he:call f a0 Heap.empty (cA true n r)=true)
  (args:List AV) (h:Heap) (K:Out->Heap->Bool) (hK:iS a0 r args h K=true):Sem P f args h K:=by
 simp only [iS,and_eq_true] at hK;obtain rfl:=AV.nD _ _ hK.1;refine Sem.frozen (hs.UD he) hp fun o h' ho=>?_
 cases o with
 |ret v=>
  simp only [cA] at ho;split at ho
  ·rename_i r' hr;obtain rfl:=AV.beq_eq _ _ ho;exact ⟨v,_,rfl,qR _ _ _ hr,hK.2⟩
  ·cases ho
 |panic v=>cases ho
theorem aZ{P:Program}{call:jI}(hs:fR P call){f:FuncId}{a0:List AV}{n m:Nat}{r:AV}(he:call f a0 Heap.empty (cA false n r)=true)
  (args:List AV) (h:Heap) (K:Out->Heap->Bool) (hK:dH m a0 r args h K=true):Sem P f args h K:=by
 unfold dH at hK;split at hK
 ·rename_i as ha;simp only [and_eq_true] at hK;obtain rfl:=AV.nD _ _ hK.1;refine Sem.VJ (hs.UD he) (mN (fun x y=>qR m x y) ha) fun o h' ho=>?_
  cases o with
  |ret v=>
   simp only [cA] at ho;split at ho
   ·rename_i r' hr;obtain rfl:=AV.beq_eq _ _ ho;exact ⟨v,_,rfl,qR _ _ _ hr,hK.2⟩
   ·cases ho
  |panic v=>cases ho
 ·cases hK
end
end Go.AM