/- Parts of the proof. Conditions: none. -/
import Derived.Test.YtfdanacohcffmaaGreatKd8
import Derived.LoopN
set_option linter.unusedSimpArgs false
set_option linter.unusedVariables false
namespace Go.AM
open List Nat Bool Option
open Go Go.RowKit
inductive Zy (w0:World) (μ:Mu):AX->Exit->Prop where
 |normal:Zy w0 μ .normal .normal
 |exit (id:Nat):Zy w0 μ (.exit id) (.exit id)
 |ret:Zy w0 μ .ret .ret
 |panic (v:AV) (vc:Value) (h:VR w0 μ v vc):Zy w0 μ (.panic v) (.panic [{ v:=vc,recovered:=false }])
def xM(w0:World)(μ:Mu)(h:Heap)(w:World)(K:AX->St->Bool)(Q:Exit->Act->World->Prop):Prop:=
 ∀ (e:AX) (ex:Exit) (s':St) (a':Act) (w':World) (μ':Mu),K e s'=true->Zy w0 μ' e ex->SR w0 μ' s' a' w'->Ext μ h w μ' s'.h w'->Q ex a' w'
section
variable {P:Program} {w0 w:World} {μ μ':Mu} {h h':Heap} {s:St} {a:Act}
theorem xM.after{K:AX->St->Bool}{Q:Exit->Act->World->Prop}(hl:xM w0 μ h w K Q){w':World}(hx:Ext μ h w μ' h' w'):xM w0 μ' h' w' K Q:=
 fun e ex s2 a2 w2 μ2 k2 q2 r2 x2=>hl e ex s2 a2 w2 μ2 k2 q2 r2 (hx.trans x2)
theorem Jg(env:Env):∀ (n i t:Nat),aE (Lf env n i) t=if t<n then env (i+t) else bM
 |0,i,t=>by simp [Lf,aE]
 |n+1,i,t=>by
  cases t with
  |zero=>simp [Lf,aE]
  |succ t=>
   simp only [Lf,aE,Jg env n (i+1) t];rw [show i+1+t=i+(t+1) by omega];by_cases h:t<n
   ·rw [if_pos h,if_pos (by omega)]
   ·rw [if_neg h,if_neg (by omega)]
theorem SR.tab(hs:SR w0 μ s a w):SR w0 μ s.tab a w:=by
 refine ⟨⟨hs.env.1,fun t=>?_⟩,hs.defs,hs.fV⟩;show VR w0 μ (aE (Lf s.env s.n 0) t) _;rw [Jg];by_cases h:t<s.n
 ·rw [if_pos h,Nat.zero_add];exact hs.env.2 t
 ·rw [if_neg h]
  have:a.tmps.getD t undef=undef:=by
   have h1:=hs.env.1;rw [Array.getD_eq_getD_getElem?,Array.getElem?_eq_none (by omega)];rfl
  rw [this];exact VR.bM
theorem Nd(hm:P.follows .mixedOrders=true){call:jS}(hc:fZ P call)(rounds:Nat):∀ (c:Code) (s:St) (a:Act) (w:World) (μ:Mu) (K:AX->St->Bool) (Q:Exit->Act->World->Prop),SR w0 μ s a w ->
  xM w0 μ s.h w K Q->evalCode P call rounds c s K=true->c.wp P Q a w:=by
 intro c
 induction c with
 |skip=>intro s a w μ K Q hs hl h;exact wp_skip (hl _ _ _ _ _ _ h .normal hs (Ext.refl _ _ _))
 |region id ops draw=>
  intro s a w μ K Q hs hl h;simp only [evalCode] at h
  cases draw with
  |true=>
   rw [if_pos rfl] at h;obtain ⟨Jf,hp,h⟩:=fP h;exact Nc hm hc hp hs (fun s' a' w' μ' hK gI hx=>hl _ _ _ _ _ _ hK .normal gI hx) h
  |false=>
   simp only [false_eq_true,if_false] at h;refine wp_region ?_;have:=LA (Q:=Q) hc ops.toList 0 s a w μ (fun j o hj=>by rw [Nat.zero_add];simpa using hj) hs ⟨fun s' a' w' μ' hK gI hx=>hl _ _ _ _ _ _ hK .normal gI hx,fun v vc s' a' w' μ' hK hv gI hx=>hl _ _ _ _ _ _ hK (.panic v vc hv) gI hx⟩ h;rw [range_eq_range'];simpa using this
 |seq x y Xb Xc=>
  intro s a w μ K Q hs hl h;simp only [evalCode] at h;refine wp_seq (Xb s a w μ _ _ hs (fun e ex s' a' w' μ' hK hq gI hx=>?_) h)
  cases hq with
  |normal=>exact Xc s' a' w' μ' K Q gI (hl.after hx) hK
  |exit id=>exact hl _ _ _ _ _ _ hK (.exit id) gI hx
  |ret=>exact hl _ _ _ _ _ _ hK .ret gI hx
  |panic v vc hv=>exact hl _ _ _ _ _ _ hK (.panic v vc hv) gI hx
 |cond c x y Xb Xc=>
  intro s a w μ K Q hs hl h;simp only [evalCode] at h;have hcv:=hs.eval c;split at h
  ·rename_i e;rw [e] at hcv;exact wp_cond_true hcv.iK (Xb s a w μ K Q hs hl h)
  ·rename_i e;rw [e] at hcv;exact wp_cond_false hcv.iK (Xc s a w μ K Q hs hl h)
  ·cases h
 |block id c ih=>
  intro s a w μ K Q hs hl h;simp only [evalCode] at h;refine wp_block (ih s a w μ _ _ hs (fun e ex s' a' w' μ' hK hq gI hx=>?_) h)
  cases hq with
  |normal=>exact hl _ _ _ _ _ _ hK .normal gI hx
  |exit Oa=>
   simp only [Exit.inBlock];simp only at hK;by_cases e:Oa=id
   ·rw [if_pos e];rw [if_pos e] at hK;exact hl _ _ _ _ _ _ hK .normal gI hx
   ·rw [if_neg e];rw [if_neg e] at hK;exact hl _ _ _ _ _ _ hK (.exit Oa) gI hx
  |ret=>exact hl _ _ _ _ _ _ hK .ret gI hx
  |panic v vc hv=>exact hl _ _ _ _ _ _ hK (.panic v vc hv) gI hx
 |loop c ih=>
  intro s a w μ K Q hs hl h;simp only [evalCode] at h;refine wp_loop_rounds rounds ?_
  have key:∀ (n:Nat) (s:St) (a:Act) (w:World) (μ:Mu),SR w0 μ s a w->xM w0 μ s.h w K Q->iter (evalCode P call rounds c) K n s=true->Code.rounds P c Q n a w:=by
   intro n
   induction n with
   |zero=>intro s a w μ hs hl h;cases h
   |succ n ihn=>
    intro s a w μ hs hl h;simp only [iter] at h;rw [rounds_succ];refine ih s a w μ _ _ hs (fun e ex s' a' w' μ' hK hq gI hx=>?_) h
    cases hq with
    |normal=>exact ihn s'.tab a' w' μ' gI.tab (hl.after hx) hK
    |exit id=>exact hl _ _ _ _ _ _ hK (.exit id) gI hx
    |ret=>exact hl _ _ _ _ _ _ hK .ret gI hx
    |panic v vc hv=>exact hl _ _ _ _ _ _ hK (.panic v vc hv) gI hx
  exact key rounds s a w μ hs hl h
 |exit id=>intro s a w μ K Q hs hl h;exact wp_exit (hl _ _ _ _ _ _ h (.exit id) hs (Ext.refl _ _ _))
 |ret=>intro s a w μ K Q hs hl h;exact wp_ret (hl _ _ _ _ _ _ h .ret hs (Ext.refl _ _ _))
 |_=>intros;rename_i h;simp [evalCode] at h
def pE(vc:Option Value):FrameMode:=match vc with
 |none=>.returning
 |some v=>.panicking [{ v,recovered:=false }]
inductive EY (w0:World) (μ:Mu):Option AV->Option Value->Prop where
 |none:EY w0 μ none none
 |some {v:AV} {vc:Value} (h:VR w0 μ v vc):EY w0 μ (some v) (some vc)
def C6(P:Program)(D:qI):Prop:=
 ∀ f g,D f=some g->Enters P f/\∀ (args:List AV) (IQ:Option AV) (h:Heap) (K:Option AV->Heap->Bool),g args IQ h K=true ->
  ∀ (w0:World) (μ:Mu) (w:World) (vs:List Value) (pv:Option Value),Good w0 μ h w->ep w0 μ args vs->EY w0 μ IQ pv->CallsD P f vs.toArray (pE pv) w fun
   |.returned _,u',w'=>∃ tr KR h' μ',K tr h'=true/\EY w0 μ' tr KR/\settle u'=pE KR/\Good w0 μ' h' w'/\Ext μ h w μ' h' w'
   |_,_,_=>False
def Gd(tmps:Array Value):ResultVar->Sem Value
 |.tmp t=>pure (tmps.getD t undef)
 |.cell x t=>do loadVar t (<- asAddr (tmps.getD x undef))
theorem Jh(hs:SR w0 μ s a w){r:ResultVar}{v:AV}(h:Cm P s r=some v) :
  ∃ vc,(Gd a.tmps r).run P w = .ok vc w/\VR w0 μ v vc:=by
 cases r with
 |tmp t=>
  simp only [Cm,Option.some.injEq] at h;subst h;exact ⟨_,by simp only [Gd,Sem.run_pure],hs.env.2 t⟩
 |cell x t=>
  simp only [Cm] at h;split at h
  ·rename_i i hi;have hx:=hs.env.2 x;unfold ag at h;split at h
   ·rename_i b off hxe;rw [hxe] at hx;split at h
    ·rename_i cs ho;generalize S9:a.tmps.getD x undef=xv at hx;cases hx;rename_i k hk;obtain ⟨vc,h1,h2⟩:=qp hi (hs.fV.cells hk ho) h;exact ⟨vc,by simp only [Gd,S9,asAddr,Sem.run_bind,Sem.run_pure,Result.andThen_ok,h1],h2⟩
    ·cases h
   ·rename_i cs off hxe;rw [hxe] at hx;generalize S9:a.tmps.getD x undef=xv at hx;cases hx;rename_i g o vs VX hv CT yo;obtain ⟨vc,h1,h2⟩:=qp hi (hs.fV.Lq VX CT hv yo) h;exact ⟨vc,by simp only [Gd,S9,asAddr,Sem.run_bind,Sem.run_pure,Result.andThen_ok,h1],h2⟩
   ·cases h
  ·cases h
theorem A6(hs:SR w0 μ s a w):∀ (rs:List ResultVar) (vs:List AV),dG P s rs=some vs ->
  ∃ us:List Value,(rs.mapM (Gd a.tmps)).run P w = .ok us w/\ep w0 μ vs us
 |[],vs,h=>by
  simp only [dG,Option.some.injEq] at h;subst h;exact ⟨[],by simp,.nil⟩
 |r :: rs,vs,h=>by
  simp only [dG] at h;split at h
  ·rename_i v vs' h1 h2;cases h;obtain ⟨vc,e1,e2⟩:=Jh hs h1;obtain ⟨us,e3,e4⟩:=A6 hs rs vs' h2;exact ⟨vc :: us,by simp only [mapM_cons,Sem.run_bind,e1,Result.andThen_ok,e3,Sem.run_pure],.cons e2 e4⟩
  ·cases h
theorem A7(hs:SR w0 μ s a w){fn:Func}{vs:List AV}(h:dG P s fn.results.toList=some vs):∃ vc,(results fn a.tmps).run P w = .ok vc w/\VR w0 μ (oneOf vs) vc:=by
 obtain ⟨us,h1,h2⟩:=A6 hs _ _ h
 have hm:(results fn a.tmps).run P w = .ok (if h:us.toArray.size=1 then us.toArray[0] else .tuple us.toArray) w:=by
  have hr:results fn a.tmps=(do let vs <- fn.results.mapM (Gd a.tmps);pure (if h:vs.size=1 then vs[0] else .tuple vs)):=by
   unfold results;congr 2
  rw [hr,<- Array.toArray_toList (xs:=fn.results),mapM_toArray];simp only [Sem.run_bind,map_eq_pure_bind,h1,Result.andThen_ok,Sem.run_pure]
 refine ⟨_,hm,?_⟩
 cases vs with
 |nil=>obtain rfl:=h2.ig;exact ep.tuple .nil
 |cons v vs=>
  obtain ⟨u,YI,rfl,h3,h4⟩:=h2.cons_inv
  cases vs with
  |nil=>obtain rfl:=h4.ig;simpa [oneOf] using h3
  |cons v2 vs=>
   obtain ⟨u2,us2,rfl,h5,h6⟩:=h4.cons_inv;rw [dif_neg (by simp)];exact ep.tuple h2
theorem m8{D:qI}(hD:C6 P D){fn:Func}{μb:Mu}{hb:Heap}{wb:World}{K:Out->Heap->Bool}:∀ (ds:List qh) (Ds:List Deferred) (IQ:Option AV) (pv:Option Value) (s:St) (a:Act) (w:World) (μ:Mu),
  CY w0 μ s.env s.n a.tmps->yI w0 μ ds Ds->Good w0 μ s.h w->EY w0 μ IQ pv->Ext μb hb wb μ s.h w->leave P D fn.results.toList K ds IQ s=true ->
  Leaves P fn a.tmps (zT w0 μb hb wb K) Ds (pE pv) w
 |[],Ds,IQ,pv,s,a,w,μ,he,hd,hg,hp,hx,h=>by
  cases hd;have hs:SR w0 μ ⟨s.env,s.n,[],s.h⟩ ⟨a.tmps,[]⟩ w:=⟨he,.nil,hg⟩
  cases hp with
  |none=>
   simp only [leave] at h;obtain ⟨vs,h1,h2⟩:=fP h
   have VZ:dG P ⟨s.env,s.n,[],s.h⟩ fn.results.toList=some vs:=by
    rw [<- h1]
    have:∀ rs:List ResultVar,dG P ⟨s.env,s.n,[],s.h⟩ rs=dG P s rs:=by
     intro rs
     induction rs with
     |nil=>rfl
     |cons r rs ih=>simp only [dG,ih];cases r<;>rfl
    exact this _
   obtain ⟨vc,h3,h4⟩:=A7 hs VZ;exact ⟨vc,h3,_,_,_,h2,h4,hg,hx⟩
  |some hv=>
   simp only [leave] at h;exact ⟨_,_,_,_,h,rfl,hv,hg,hx⟩
 |d :: ds,Ds,IQ,pv,s,a,w,μ,he,hd,hg,hp,hx,h=>by
  cases hd with
  |cons hdr ht=>
   obtain ⟨cap,args,rfl,r1,r2⟩:=hdr;simp only [leave] at h;split at h
   ·rename_i g Na;obtain ⟨rY,Xd⟩:=hD d.f g Na;have hcd:=Xd _ _ _ _ h w0 μ w (args++cap) pv hg (r1.append r2) hp;refine ⟨by cases pv<;>simp [pE],.func d.f,cap.toArray,d.f,(args++cap).toArray,rfl,?_,?_⟩
    ·have e:args.toArray++cap.toArray=(args++cap).toArray:=(by simp);simp only [invoke,e,yJ rY]
    ·refine CallsD.mono hcd fun e u' w' hR=>?_
     cases e with
     |returned v=>
      obtain ⟨tr,KR,h',μ',hK,zP,hu,hg2,fo⟩:=hR;simp only;rw [hu];exact m8 hD ds _ tr KR ⟨s.env,s.n,s.defs,h'⟩ a w' μ' (he.mono fo.mono) (ht.mono fo.mono) hg2 zP (hx.trans fo) hK
     |panicked c=>exact hR.elim
     |outgrown=>exact hR.elim
   ·cases h
theorem zV{args:List AV}{vs:List Value}(h:ep w0 μ args vs){n:Nat}(hn:args.length<=n):CY w0 μ (aE args) n (vs.toArray++Array.replicate (n-vs.toArray.size) undef):=by
 have hl:=h.len;refine ⟨by simp;omega,fun t=>?_⟩
 have key:∀ (args:List AV) (t:Nat),aE args t=(args[t]?).getD bM:=by
  intro args
  induction args with
  |nil=>intro t;simp [aE]
  |cons x xs ih=>
   intro t
   cases t with
   |zero=>simp [aE]
   |succ t=>simp [aE,ih]
 rw [key];by_cases ht:t<args.length
 ·have h1:args[t]?=some args[t]:=ez ht;obtain ⟨v,h2,h3⟩:=h.get h1;rw [h1]
  have:(vs.toArray++Array.replicate (n-vs.toArray.size) undef).getD t undef=v:=by
   rw [Array.getD_eq_getD_getElem?,Array.getElem?_append_left (by simp;omega)];simp [h2]
  rw [this];exact h3
 ·rw [getElem?_eq_none (by omega)]
  have:(vs.toArray++Array.replicate (n-vs.toArray.size) undef).getD t undef=undef:=by
   rw [Array.getD_eq_getD_getElem?,Array.getElem?_append_right (by simp;omega),Array.getElem?_replicate];split<;>rfl
  rw [this];exact VR.bM
def iR(P:Program)(F:yy):Prop:=
 ∀ f g,F f=some g->∀ args h K,g args h K=true->Enters P f/\∀ (w0:World) (μ:Mu) (w:World) (vs:List Value),Good w0 μ h w->ep w0 μ args vs->Calls P f vs.toArray w (zT w0 μ h w K)
theorem ke(hm:P.follows .mixedOrders=true){F:yy}{D:qI}(hF:iR P F)(hD:C6 P D):∀ n,fZ P (bU P F D n)
 |0=>fun f args h K hh=>by cases hh
 |n+1=>fun f args h K hh=>by
  simp only [bU] at hh;split at hh
  ·rename_i g hg;exact hF f g hg args h K hh
  ·split at hh
   ·cases hh
   ·rename_i fn PN;split at hh
    ·rename_i CU;simp only [and_eq_true,decide_eq_true_eq,bne_iff_ne,ne_eq] at CU;unfold P9 at hh;split at hh
     ·cases hh
     ·rename_i c hb;refine ⟨⟨fn,c,PN,hb,CU.2⟩,fun w0 μ w vs hg hv=>?_⟩;refine calls_of_wp_defers PN hb ?_;refine Nd (w0:=w0) hm (ke hm hF hD n) n c ⟨aE args,fn.ntmps,[],h⟩ _ w μ _ _ ⟨zV hv CU.1,.nil,hg⟩ (fun e ex s' a' w' μ' hK hq gI hx=>?_) hh
      cases hq with
      |normal=>exact m8 hD _ _ none none s' a' w' μ' gI.env gI.defs gI.fV .none hx hK
      |ret=>exact m8 hD _ _ none none s' a' w' μ' gI.env gI.defs gI.fV .none hx hK
      |exit id=>cases hK
      |panic v vc hv=>exact m8 hD _ _ (some v) (some vc) s' a' w' μ' gI.env gI.defs gI.fV (.some hv) hx hK
    ·cases hh
end
end Go.AM
namespace Go.AM
open List Nat Bool Option
open Go Go.RowKit
def To:List Entry->List Entry->Bool
 |[],[]=>true
 |a :: as,b :: bs=>AV.beq a.1 b.1&&(AV.beq a.2.1 b.2.1&&(Nat.beq a.2.2 b.2.2&&To as bs))
 |_,_=>false
def Heap.Clean(h:Heap):Prop:=∀ b,h.next<=b->h.get b=none
theorem Heap.uk:Heap.empty.Clean:=fun b _=>Trie.CI b
theorem Heap.Ji{h:Heap}(hc:h.Clean)(o:j9):(h.alloc o).Clean:=fun b hb=>by
 simp at hb;rw [Heap.aQ,if_neg (by omega)];exact hc b (by omega)
section
variable {P:Program} {w0 w:World} {μ μ':Mu} {h h' h1:Heap}
def Mu.bare(μ:Mu):Mu:=⟨fun _=>Option.none,μ.z⟩
def Mu.yC(μ μ':Mu):Mu:=⟨μ.m,μ'.z⟩
theorem Good.nothing(hg:Good w0 μ h w):Good w0 μ.bare Heap.empty w:=
 ⟨hg.below,Heap.uk,by simp [Mu.bare],by simp [Mu.bare],hg.yB,by simp [Mu.bare],by simp [Mu.bare],by simp [Mu.bare]⟩
theorem Good.Xe(hg:Good w0 μ h w){w':World}(Na:Good w0 μ' h' w')(hx:Ext μ.bare Heap.empty w μ' h' w'):Good w0 (μ.yC μ') h w'/\Ext μ h w (μ.yC μ') h w':=by
 have hf:∀ k,k<w.heap.size->w'.heap[k]?=w.heap[k]?:=fun k hk=>hx.frame k hk (by simp [Mu.bare]);refine ⟨⟨Na.below,hg.clean,hg.fresh,fun b k hb=>?_,Na.yB,fun b k hb=>?_,fun b k o hb ho=>?_,hg.inj⟩,⟨⟨fun _ _ h=>h,hx.mono.yB⟩,fun k hk _=>hf k hk,fun _ _ h=>.inl h,hx.size,dK _,fun _ _ _=>rfl,fun _ _ h=>.inl h,hx.yC⟩⟩
 ·have:=hg.own b k hb;have:=hx.size;omega
 ·show μ'.z k.c=none
  cases hz:μ'.z k.c with
  |none=>rfl
  |some vs=>
   rcases hx.yC _ _ hz with h1|h1
   ·have VZ:μ.z k.c=some vs:=h1;rw [hg.apart b k hb] at VZ;cases VZ
   ·have:=(hg.own b k hb).2;omega
 ·have fq:μ b=some k:=hb;rw [hf _ (hg.own b k fq).2];exact om.mono (μ:=μ) (μ':=μ.yC μ') ⟨fun _ _ h=>h,hx.mono.yB⟩ (hg.obj b k o fq ho)
def V9(b:Bool):List AV->Heap->(Out->Heap->Bool)->Bool:=fun args h K=>
 match args with
 |[]=>K (.ret (.bool b)) h
 |_=>false
def Wa(b:Bool):Out->Heap->Bool
 |.ret v,_=>AV.beq v (.bool b)
 |_,_=>false
theorem Jj{call:jS}(hs:fZ P call){f:FuncId}{b:Bool}(he:call f [] Heap.empty (Wa b)=true)(args:List AV)(h:Heap)(K:Out->Heap->Bool)(hK:V9 b args h K=true) :
  Enters P f/\∀ (w0:World) (μ:Mu) (w:World) (vs:List Value),Good w0 μ h w->ep w0 μ args vs->Calls P f vs.toArray w (zT w0 μ h w K):=by
 obtain ⟨rY,hc⟩:=hs _ _ _ _ he;refine ⟨rY,fun w0 μ w vs hg hv=>?_⟩;unfold V9 at hK;split at hK
 ·obtain rfl:=hv.ig;refine Calls.mono (hc w0 _ w [] hg.nothing .nil) fun e w' hR=>?_
  cases e with
  |returned vc=>
   obtain ⟨v,h',μ',k1,k2,k3,k4⟩:=hR;obtain rfl:=AV.beq_eq _ _ k1;obtain ⟨g1,g2⟩:=hg.Xe k3 k4;rw [k2.iK];exact ⟨_,h,μ.yC μ',hK,.bool b,g1,g2⟩
  |panicked c=>
   obtain ⟨v,vc,h',μ',k1,_⟩:=hR;cases k1
  |outgrown=>exact hR.elim
 ·cases hK
end
end Go.AM
namespace Go.AM
open List Nat Bool Option
open Go Go.RowKit
section
variable {w0:World} {μ:Mu} {ρ:Nat->Nat}
end
mutual
theorem AV.beq_refl:∀ x:AV,AV.beq x x=true
 |.undef=>rfl
 |.bool a=>by simp [AV.beq]
 |.int k a=>by simp [AV.beq]
 |.str a=>by simp [AV.beq]
 |.eH=>rfl
 |.ptr a i=>by simp [AV.beq]
 |.ef a i=>by simp [AV.beq,AV.m9 a]
 |.ax=>rfl
 |.slice b i l s=>by simp [AV.beq]
 |.au a i l s=>by simp [AV.beq,AV.m9 a]
 |.jJ=>rfl
 |.map a=>by simp [AV.beq]
 |.nO=>rfl
 |.func f a b=>by simp [AV.beq,AV.m9 a,AV.m9 b]
 |.qE=>rfl
 |.iface t v=>by simp [AV.beq,AV.beq_refl v]
 |.agg a=>by simp [AV.beq,AV.m9 a]
 |.tuple a=>by simp [AV.beq,AV.m9 a]
theorem AV.m9:∀ x:List AV,AV.yq x x=true
 |[]=>rfl
 |a :: l=>by simp [AV.yq,AV.beq_refl a,AV.m9 l]
end
theorem yR:∀ n:Nat,Nat.beq n n=true
 |0=>rfl
 |n+1=>yR n
end Go.AM
namespace Go.AM
open List Nat Bool Option
def kf(g1 g2:List AV->Heap->(Out->Heap->Bool)->Bool):List AV->Heap->(Out->Heap->Bool)->Bool:=fun args h K=>g1 args h K||g2 args h K
theorem cy{g1 g2:List AV->Heap->(Out->Heap->Bool)->Bool}{args:List AV}{h:Heap}{K:Out->Heap->Bool}(hK:kf g1 g2 args h K=true):g1 args h K=true\/g2 args h K=true:=by
 simpa [kf] using hK
end Go.AM
namespace Go.AM
open List Nat Bool Option
open Go Go.RowKit
noncomputable section
variable {K:Out->Heap->Bool} {args:List AV} {h:Heap} {f:FuncId} {env:Env} {P:Program}
def Sem(P:Program)(f:FuncId)(args:List AV)(h:Heap)(K:Out->Heap->Bool):Prop:=
 Enters P f/\∀ (w0:World) (μ:Mu) (w:World) (vs:List Value),Good w0 μ h w->ep w0 μ args vs->Calls P f vs.toArray w (zT w0 μ h w K)
theorem zT.mono{w0 w:World}{μ:Mu}{K':Out->Heap->Bool}(hk:∀ o h',K o h'=true->K' o h'=true){e:Ending}{w':World}(hr:zT w0 μ h w K e w'):zT w0 μ h w K' e w':=by
 cases e with
 |returned vc=>obtain ⟨v,h',μ',k1,k2⟩:=hr;exact ⟨v,h',μ',hk _ _ k1,k2⟩
 |panicked c=>obtain ⟨v,vc,h',μ',k1,k2⟩:=hr;exact ⟨v,vc,h',μ',hk _ _ k1,k2⟩
 |outgrown=>exact hr.elim
theorem Sem.mono{P:Program}{f:FuncId}{args:List AV}{h:Heap}{K K':Out->Heap->Bool}(hs:Sem P f args h K)(hk:∀ o h',K o h'=true->K' o h'=true):Sem P f args h K':=
 ⟨hs.1,fun w0 μ w vs hg hv=>(hs.2 w0 μ w vs hg hv).mono fun _ _ hr=>hr.mono hk⟩
def aB(P:Program):jS:=fun f args h K=>@decide (Sem P f args h K) (Classical.propDecidable _)
theorem wZ(P:Program):fZ P (aB P):=fun f args h K hh=>@of_decide_eq_true _ (Classical.propDecidable _) hh
theorem ai(hs:Sem P f args h K):aB P f args h K=true:=@_root_.decide_eq_true _ (Classical.propDecidable _) hs
theorem fZ.Wb{call:jS}(hc:fZ P call)(hh:call f args h K=true):Sem P f args h K:=hc f args h K hh
theorem iR.Wb{F:yy}(hF:iR P F){g:List AV->Heap->(Out->Heap->Bool)->Bool}(hg:F f=some g)(hh:g args h K=true):Sem P f args h K:=hF f g hg args h K hh
def yes(p:Prop):Bool:=@decide p (Classical.propDecidable _)
theorem cu{p:Prop}:yes p=true↔p:=@decide_eq_true_iff p (Classical.propDecidable _)
theorem Nf:∃ r:(St->(AX->St->Bool)->Bool)->St->(AX->St->Bool)->Bool,∀ f s K,r f s K=f s K:=⟨fun f s K=>f s K,fun _ _ _=>rfl⟩
def Ow:(St->(AX->St->Bool)->Bool)->St->(AX->St->Bool)->Bool:=Classical.choose Nf
theorem yS(f:St->(AX->St->Bool)->Bool)(s:St)(K:AX->St->Bool):Ow f s K=f s K:=Classical.choose_spec Nf f s K
def cQ(j:Bool)(b:St->(AX->St->Bool)->Bool)(K:AX->St->Bool):AX->St->Bool
 |.normal,s'=>@Bool.rec (fun _=>Bool) (b s' K) (Ow b s' K) j
 |.exit id,s'=>K (.exit id) s'
 |.ret,s'=>K .ret s'
 |.panic v,s'=>K (.panic v) s'
theorem Jk(j:Bool)(b:St->(AX->St->Bool)->Bool)(K:AX->St->Bool)(s:St):cQ j b K .normal s=b s K:=by
 cases j
 ·rfl
 ·exact yS b s K
def aX(id:Nat)(K:AX->St->Bool):AX->St->Bool
 |.normal,s'=>K .normal s'
 |.exit Oa,s'=>@Bool.rec (fun _=>Bool) (K (.exit Oa) s') (K .normal s') (Nat.beq Oa id)
 |.ret,s'=>K .ret s'
 |.panic v,s'=>K (.panic v) s'
def ay(x:AV)(a b:Bool):Bool:=
 match x with
 |.bool t=>@Bool.rec (fun _=>Bool) b a t
 |_=>false
def Ge(I:Nat->St->Prop)(n:Nat)(K:AX->St->Bool):AX->St->Bool
 |.normal,s'=>yes (∃ m,m<n/\I m s')
 |.exit id,s'=>K (.exit id) s'
 |.ret,s'=>K .ret s'
 |.panic v,s'=>K (.panic v) s'
def bV(f:St->(AX->St->Bool)->Bool)(s:St)(K:AX->St->Bool):Bool:=
 yes (∃ I:Nat->St->Prop,(∃ n,I n s)/\∀ n s',I n s'->f s' (Ge I n K)=true)
def Ng(ops:List Oper)(j:Nat):Option Tmp:=match ops[j]? with|some g=>g.dst|none=>none
def Qy(j:Nat):List Nat->Bool
 |[]=>false
 |k :: ks=>@Bool.rec (fun _=>Bool) (Qy j ks) true (Nat.beq j k)
def jW(P:Program)(call:jS)(ops:List Oper):List Oper->Nat->List Nat->St->(RS->Bool)->Bool
 |[],_,_,s,K=>K (.ok s)
 |o :: rest,i,sk,⟨env,n,defs,h⟩,K=>
  match o.guard with
  |none=>jk o.op P call env defs h fun
   |.ok v defs h=>iF env n o.dst v fun env=>jW P call ops rest (i+1) sk ⟨env,n,defs,h⟩ K
   |.panic v h=>K (.panic v ⟨env,n,defs,h⟩)
  |some (j,want)=>match Ng ops j with
   |none=>false
   |some d=>@Bool.rec (fun _=>Bool)
    (ay (env d)
     (@Bool.rec (fun _=>Bool) (iF (aa env d (.bool true)) n o.dst bM fun env=>jW P call ops rest (i+1) (i :: sk) ⟨env,n,defs,h⟩ K)
      (jk o.op P call (aa env d (.bool true)) defs h fun
       |.ok v defs h=>iF (aa env d (.bool true)) n o.dst v fun env=>jW P call ops rest (i+1) sk ⟨env,n,defs,h⟩ K
       |.panic v h=>K (.panic v ⟨aa env d (.bool true),n,defs,h⟩)) want)
     (@Bool.rec (fun _=>Bool) (jk o.op P call (aa env d (.bool false)) defs h fun
       |.ok v defs h=>iF (aa env d (.bool false)) n o.dst v fun env=>jW P call ops rest (i+1) sk ⟨env,n,defs,h⟩ K
       |.panic v h=>K (.panic v ⟨aa env d (.bool false),n,defs,h⟩))
      (iF (aa env d (.bool false)) n o.dst bM fun env=>jW P call ops rest (i+1) (i :: sk) ⟨env,n,defs,h⟩ K) want))
    (match env d with
     |.tuple _=>iF env n o.dst bM fun env=>jW P call ops rest (i+1) (i :: sk) ⟨env,n,defs,h⟩ K
     |_=>false) (Qy j sk)
def dU(P:Program)(call:jS)(ops:List Oper)(ms:List Nat):List (Nat×Oper)->List Read->List Nat->St->(St->Bool)->Bool
 |[],_,_,s,K=>K s
 |p :: rest,lg,sk,⟨env,n,defs,h⟩,K=>
  @Option.rec (Nat×Bool) (fun _=>Bool)
   (match fE p.2.op with
   |.pure=>gZ p.2.op P (evalArg env) h fun v _=>iF env n p.2.dst v fun eO=>dU P call ops ms rest lg sk ⟨eO,n,defs,h⟩ K
   |.read=>gZ p.2.op P (evalArg env) h fun v _=>iF env n p.2.dst v fun eO=>dU P call ops ms rest (⟨p.1,p.2.op,env,v⟩ :: lg) sk ⟨eO,n,defs,h⟩ K
   |.alloc=>gZ p.2.op P (evalArg env) h fun v h'=>iF env n p.2.dst v fun eO=>dU P call ops ms rest lg sk ⟨eO,n,defs,h'⟩ K
   |.KO=>
    jk p.2.op P call env defs h fun
     |.ok v jT h'=>if jE P ms p.1 h' lg then iF env n p.2.dst v fun eO=>dU P call ops ms rest lg sk ⟨eO,n,jT,h'⟩ K else false
     |.panic _ _=>false)
   (fun g=>match Ng ops g.1 with
    |none=>false
    |some d=>@Bool.rec (fun _=>Bool)
     (ay (env d)
      (@Bool.rec (fun _=>Bool) (iF (aa env d (.bool true)) n p.2.dst bM fun eO=>dU P call ops ms rest lg (p.1 :: sk) ⟨eO,n,defs,h⟩ K)
       (match fE p.2.op with
       |.pure=>gZ p.2.op P (evalArg (aa env d (.bool true))) h fun v _=>iF (aa env d (.bool true)) n p.2.dst v fun eO=>dU P call ops ms rest lg sk ⟨eO,n,defs,h⟩ K
       |.read=>gZ p.2.op P (evalArg (aa env d (.bool true))) h fun v _=>iF (aa env d (.bool true)) n p.2.dst v fun eO=>dU P call ops ms rest (⟨p.1,p.2.op,aa env d (.bool true),v⟩ :: lg) sk ⟨eO,n,defs,h⟩ K
       |.alloc=>gZ p.2.op P (evalArg (aa env d (.bool true))) h fun v h'=>iF (aa env d (.bool true)) n p.2.dst v fun eO=>dU P call ops ms rest lg sk ⟨eO,n,defs,h'⟩ K
       |.KO=>
        jk p.2.op P call (aa env d (.bool true)) defs h fun
         |.ok v jT h'=>if jE P ms p.1 h' lg then iF (aa env d (.bool true)) n p.2.dst v fun eO=>dU P call ops ms rest lg sk ⟨eO,n,jT,h'⟩ K else false
         |.panic _ _=>false) g.2)
      (@Bool.rec (fun _=>Bool)
       (match fE p.2.op with
       |.pure=>gZ p.2.op P (evalArg (aa env d (.bool false))) h fun v _=>iF (aa env d (.bool false)) n p.2.dst v fun eO=>dU P call ops ms rest lg sk ⟨eO,n,defs,h⟩ K
       |.read=>gZ p.2.op P (evalArg (aa env d (.bool false))) h fun v _=>iF (aa env d (.bool false)) n p.2.dst v fun eO=>dU P call ops ms rest (⟨p.1,p.2.op,aa env d (.bool false),v⟩ :: lg) sk ⟨eO,n,defs,h⟩ K
       |.alloc=>gZ p.2.op P (evalArg (aa env d (.bool false))) h fun v h'=>iF (aa env d (.bool false)) n p.2.dst v fun eO=>dU P call ops ms rest lg sk ⟨eO,n,defs,h'⟩ K
       |.KO=>
        jk p.2.op P call (aa env d (.bool false)) defs h fun
         |.ok v jT h'=>if jE P ms p.1 h' lg then iF (aa env d (.bool false)) n p.2.dst v fun eO=>dU P call ops ms rest lg sk ⟨eO,n,jT,h'⟩ K else false
         |.panic _ _=>false)
       (iF (aa env d (.bool false)) n p.2.dst bM fun eO=>dU P call ops ms rest lg (p.1 :: sk) ⟨eO,n,defs,h⟩ K) g.2))
     (match env d with
      |.tuple _=>iF env n p.2.dst bM fun eO=>dU P call ops ms rest lg (p.1 :: sk) ⟨eO,n,defs,h⟩ K
      |_=>false) (Qy g.1 sk)) p.2.guard
def aeL(K:AX->St->Bool):RS->Bool
 |.ok s'=>K .normal s'
 |.panic v s'=>K (.panic v) s'
def pF(P:Program)(call:jS):Code->St->(AX->St->Bool)->Bool
 |.skip,s,K=>K .normal s
 |.region _ ops draw,s,K=>
  @Bool.rec (fun _=>Bool) (jW P call ops.toList ops.toList 0 [] s (aeL K))
   (af (IP ops.toList) fun p=>dU P call ops.toList p.ms p.L [] [] s fun s'=>K .normal s') draw
 |.seq a b,s,K=>pF P call a s (cQ (WT a b) (pF P call b) K)
 |.cond c a b,s,K=>ay (evalArg s.env c) (pF P call a s K) (pF P call b s K)
 |.block id c,s,K=>pF P call c s (aX id K)
 |.loop c,s,K=>bV (pF P call c) s K
 |.exit id,s,K=>K (.exit id) s
 |.ret,s,K=>K .ret s
 |_,_,_=>false
theorem vw{d:Nat}{v:AV}(h:env d=v):aa env d v=env:=by
 funext t;rw [bL];by_cases e:t=d
 ·rw [if_pos e,e,h]
 ·rw [if_neg e]
theorem Gf{x:AV}{a b:Bool}(h:ay x a b=true):(x = .bool true/\a=true)\/(x = .bool false/\b=true):=by
 unfold ay at h;split at h
 ·rename_i t;cases t
  ·exact .inr ⟨rfl,h⟩
  ·exact .inl ⟨rfl,h⟩
 ·cases h
section
variable {P:Program} {w0 w:World} {μ μ':Mu} {h h':Heap} {s:St} {a:Act}
theorem C7{ops:List Oper}{o:Oper}{j:Nat}{want:Bool}{d:Tmp}(hg:o.guard=some (j,want))(hd:Ng ops j=some d) :
  iW ops o env=(match env d with|.bool b=>some (b==want)|.tuple _=>some false|_=>none):=by
 unfold iW Ng at *;rw [hg];simp only;split at hd
 ·rename_i g hj;rw [hj];simp only [hd];rfl
 ·cases hd
theorem vz{ρ:Operand->AV}{op:Op}{hp:Heap}{K1 K2:AV->Heap->Bool}(hk:∀ v h',K1 v h'=true->K2 v h'=true)(hh:gZ op P ρ hp K1=true):gZ op P ρ hp K2=true:=by
 have val:∀ {o:Option AV},kH hp K1 o=true->kH hp K2 o=true:=by
  intro o h;cases o with
  |none=>exact h
  |some a=>exact hk _ _ h
 have both:∀ {o:Option (AV×Heap)},wU K1 o=true->wU K2 o=true:=by
  intro o h;cases o with
  |none=>exact h
  |some a=>exact hk _ _ h
 have heap:∀ {o:Option Heap},AR K1 o=true->AR K2 o=true:=by
  intro o h;cases o with
  |none=>exact h
  |some a=>exact hk _ _ h
 have bind:∀ {α:Type} {o:Option α} {f g:α->Bool},(∀ a,f a=true->g a=true)->af o f=true->af o g=true:=by
  intro α o f g hfg h;cases o with
  |none=>exact h
  |some a=>exact hfg _ h
 cases op<;>simp only [gZ] at hh ⊢<;>try (first|exact hk _ _ hh|exact val hh|exact both hh|exact heap hh|exact bind (fun _ h=>val h) hh|exact bind (fun _ h=>both h) hh|exact bind (fun _ h=>heap h) hh|exact bind (fun _ h=>hk _ _ h) hh|(exfalso;simp at hh;done))
 case buildSlice t n ps=>unfold rU at hh ⊢;exact bind (fun _ h=>bind (fun _ h=>hk _ _ h) h) hh
 case binOp o t x y u=>
  unfold P7 at hh ⊢;cases o<;>simp only at hh ⊢<;>first|exact val hh|exact bind (fun _ h=>val h) hh
 case makeFunc fn f c=>
  unfold CF at hh ⊢;cases fn<;>simp only at hh ⊢<;>first|exact hk _ _ hh|exact hh
 case makeMap t r=>
  unfold FW at hh ⊢;cases r<;>simp only at hh ⊢<;>first|exact hk _ _ hh|exact hh
 case slice t x lo hi mx=>
  unfold Hh at hh ⊢;cases mx<;>simp only at hh ⊢<;>first|exact bind (fun _ h=>val h) hh|exact hh
 case call c=>
  obtain ⟨zN,args,ts⟩:=c;unfold tX at hh ⊢
  cases zN with
  |value f=>exact hh
  |invoke r m=>exact hh
  |builtin b=>
   simp only at hh ⊢;cases b<;>simp only [FX,Ld,false_eq_true] at hh ⊢
   case append=>
    unfold zK at hh ⊢;split at hh
    ·exact bind (fun _ h=>both h) hh
    ·exact hh
   case copy=>
    unfold Hi at hh ⊢;split at hh
    ·exact bind (fun _ h=>both h) hh
    ·exact hh
   case len=>
    unfold Lc at hh ⊢;split at hh
    ·exact bind (fun _ h=>val h) hh
    ·exact hh
   case delete=>
    unfold zL at hh ⊢;split at hh
    ·exact bind (fun _ h=>heap h) hh
    ·exact hh
   case min=>
    unfold vj at hh ⊢;split at hh
    ·exact val hh
    ·exact hh
   case max=>
    unfold vj at hh ⊢;split at hh
    ·exact val hh
    ·exact hh
theorem Jl{op:Op}{defs:List qh}{hp:Heap}{K1 K2:R->Bool}(hk:∀ r,K1 r=true->K2 r=true)(hh:jk op P (aB P) env defs hp K1=true):jk op P (aB P) env defs hp K2=true:=by
 have plain:∀ {op:Op},qm op P (aB P) env defs hp K1=true->qm op P (aB P) env defs hp K2=true:=fun h=>vz (fun _ _ h=>hk _ h) h;cases op<;>simp only [jk] at hh ⊢<;>try exact plain hh
 case call c=>
  obtain ⟨zN,args,ts⟩:=c
  cases zN with
  |builtin b=>exact plain hh
  |invoke r m=>exact plain hh
  |value f=>
   simp only [xD,Cg] at hh ⊢;split at hh
   ·refine ai ((wZ P).Wb hh |>.mono fun o h' h=>?_);cases o<;>exact hk _ h
   ·exact hh
 case defer c=>
  obtain ⟨zN,args,ts⟩:=c
  cases zN with
  |builtin b=>exact hh
  |invoke r m=>exact hh
  |value f=>
   simp only [yu] at hh ⊢;split at hh
   ·exact hk _ hh
   ·exact hh
 case panic x=>
  simp only [yw] at hh ⊢;split at hh
  ·exact hk _ hh
  ·exact hh
 case next x b=>
  simp only [Hj] at hh ⊢;generalize yt b (evalArg env x) hp=o at hh ⊢
  cases o with
  |none=>exact hh
  |some L=>
   simp only [af] at hh ⊢
   induction L with
   |nil=>rfl
   |cons p L ih=>
    simp only [mC,and_eq_true] at hh ⊢;exact ⟨hk _ hh.1,ih hh.2⟩
theorem rq{n:Nat}{dst:Option Tmp}{v:AV}{k1 k2:Env->Bool}(hk:∀ e,k1 e=true->k2 e=true)(hh:iF env n dst v k1=true):iF env n dst v k2=true:=by
 cases dst with
 |none=>exact hk _ hh
 |some d=>
  simp only [iF] at hh ⊢
  cases hb:ble (d+1) n with
  |false=>rw [hb] at hh;cases hh
  |true=>rw [hb] at hh;exact hk _ hh
theorem kg{ops:List Oper}{ms:List Nat}{K:St->Bool}:∀ (L:List (Nat×Oper)) (lg:List Read) (sk:List Nat) (s:St),dU P (aB P) ops ms L lg sk s K=true->fO P (aB P) ops ms L lg s K=true
 |[],lg,sk,s,hh=>hh
 |p :: rest,lg,sk,⟨env,n,defs,hp⟩,hh=>by
  have LH:(match fE p.2.op with
   |.pure=>gZ p.2.op P (evalArg env) hp fun v _=>iF env n p.2.dst v fun eO=>dU P (aB P) ops ms rest lg sk ⟨eO,n,defs,hp⟩ K
   |.read=>gZ p.2.op P (evalArg env) hp fun v _=>iF env n p.2.dst v fun eO=>dU P (aB P) ops ms rest (⟨p.1,p.2.op,env,v⟩ :: lg) sk ⟨eO,n,defs,hp⟩ K
   |.alloc=>gZ p.2.op P (evalArg env) hp fun v h'=>iF env n p.2.dst v fun eO=>dU P (aB P) ops ms rest lg sk ⟨eO,n,defs,h'⟩ K
   |.KO=>
    jk p.2.op P (aB P) env defs hp fun
     |.ok v jT h'=>if jE P ms p.1 h' lg then iF env n p.2.dst v fun eO=>dU P (aB P) ops ms rest lg sk ⟨eO,n,jT,h'⟩ K else false
     |.panic _ _=>false)=true->(match fE p.2.op with
   |.pure=>gZ p.2.op P (evalArg env) hp fun v _=>iF env n p.2.dst v fun eO=>fO P (aB P) ops ms rest lg ⟨eO,n,defs,hp⟩ K
   |.read=>gZ p.2.op P (evalArg env) hp fun v _=>iF env n p.2.dst v fun eO=>fO P (aB P) ops ms rest (⟨p.1,p.2.op,env,v⟩ :: lg) ⟨eO,n,defs,hp⟩ K
   |.alloc=>gZ p.2.op P (evalArg env) hp fun v h'=>iF env n p.2.dst v fun eO=>fO P (aB P) ops ms rest lg ⟨eO,n,defs,h'⟩ K
   |.KO=>
    jk p.2.op P (aB P) env defs hp fun
     |.ok v jT h'=>if jE P ms p.1 h' lg then iF env n p.2.dst v fun eO=>fO P (aB P) ops ms rest lg ⟨eO,n,jT,h'⟩ K else false
     |.panic _ _=>false)=true:=by
   intro h;cases hk:fE p.2.op<;>rw [hk] at h<;>simp only at h ⊢
   ·exact vz (fun v h' h=>rq (fun e h=>kg rest _ _ _ h) h) h
   ·exact vz (fun v h' h=>rq (fun e h=>kg rest _ _ _ h) h) h
   ·exact vz (fun v h' h=>rq (fun e h=>kg rest _ _ _ h) h) h
   ·refine Jl (fun r h=>?_) h
    cases r with
    |ok v jT h'=>
     simp only at h ⊢;split at h
     ·rename_i hs;rw [if_pos hs];exact rq (fun e h=>kg rest _ _ _ h) h
     ·cases h
    |panic v h'=>cases h
  have C8:∀ sk',(iF env n p.2.dst bM fun eO=>dU P (aB P) ops ms rest lg sk' ⟨eO,n,defs,hp⟩ K)=true->(iF env n p.2.dst bM fun eO=>fO P (aB P) ops ms rest lg ⟨eO,n,defs,hp⟩ K)=true:=
   fun sk' h=>rq (fun e h=>kg rest _ _ _ h) h
  simp only [dU] at hh;simp only [fO]
  cases hg:p.2.guard with
  |none=>
   rw [hg] at hh;have hw:iW ops p.2 env=some true:=by unfold iW;rw [hg]
   rw [hw];exact LH hh
  |some g=>
   obtain ⟨j,want⟩:=g;rw [hg] at hh;simp only at hh;split at hh
   ·cases hh
   ·rename_i d hd;have Jm:=C7 (env:=env) hg hd
    cases hm:Qy j sk with
    |true=>
     rw [hm] at hh;simp only at hh;split at hh
     ·rename_i vs hv;rw [hv] at Jm;rw [Jm];exact C8 _ hh
     ·cases hh
    |false=>
     rw [hm] at hh;simp only at hh;rcases Gf hh with ⟨hv,hh⟩|⟨hv,hh⟩
     ·rw [hv] at Jm;rw [vw hv] at hh;rw [Jm]
      cases want with
      |true=>exact LH hh
      |false=>exact C8 _ hh
     ·rw [hv] at Jm;rw [vw hv] at hh;rw [Jm]
      cases want with
      |true=>exact C8 _ hh
      |false=>exact LH hh
theorem HA{call:jS}(hc:fZ P call){ops:Array Oper}{K:RS->Bool}{Q:Exit->Act->World->Prop}:∀ (l:List Oper) (i:Nat) (sk:List Nat) (s:St) (a:Act) (w:World) (μ:Mu),(∀ j o,l[j]?=some o->ops[i+j]?=some o) ->
  SR w0 μ s a w->(hl:zU w0 μ s.h w K Q)->jW P call ops.toList l i sk s K=true->wpOps P ops Q (range' i l.length) a w
 |[],i,sk,s,a,w,μ,hi,hs,hl,h=>by
  simp only [length_nil,range'_zero,wpOps];exact hl.ok _ _ _ _ h hs (Ext.refl _ _ _)
 |o :: rest,i,sk,s,a,w,μ,hi,hs,hl,h=>by
  have PM:ops[i]?=some o:=by simpa using hi 0 o rfl
  obtain ⟨env,n,defs,hp⟩:=s;simp only [length_cons,range'_succ,wpOps,PM]
  have wo:∀ j o',rest[j]?=some o'->ops[i+1+j]?=some o':=fun j o' hj=>by
   have:=hi (j+1) o' (by simpa using hj)
   rwa [show i+1+j=i+(j+1) by omega]
  have LH:iW ops.toList o env=some true->(jk o.op P call env defs hp fun
       |.ok v defs h=>iF env n o.dst v fun env=>jW P call ops.toList rest (i+1) sk ⟨env,n,defs,h⟩ K
       |.panic v h=>K (.panic v ⟨env,n,defs,h⟩))=true ->
    (if Region.wanted o (yielded ops a.tmps) then o.wp P a w (wpOps P ops Q (range' (i+1) rest.length)) Q\/(o.asks P a w/\LetsOut Q) else wpOps P ops Q (range' (i+1) rest.length) (a.put o.dst undef) w):=by
   intro hw hh;rw [lF hs.env hw,if_pos rfl];refine .inl (Cn hs hc ⟨fun v jT h' a' w' μ' hK gI hx=>?_,fun v vc h' w' μ' hK hv gI hx=>?_⟩ hh)
   ·exact HA hc rest (i+1) sk _ a' w' μ' wo gI (hl.after hx) (lu hK)
   ·exact hl.panic v vc _ a w' μ' hK hv gI hx
  have C8:iW ops.toList o env=some false->(iF env n o.dst bM fun env=>jW P call ops.toList rest (i+1) (i :: sk) ⟨env,n,defs,hp⟩ K)=true ->
    (if Region.wanted o (yielded ops a.tmps) then o.wp P a w (wpOps P ops Q (range' (i+1) rest.length)) Q\/(o.asks P a w/\LetsOut Q) else wpOps P ops Q (range' (i+1) rest.length) (a.put o.dst undef) w):=by
   intro hw hh;rw [lF hs.env hw];simp only [false_eq_true,if_false];have gI:=hs.left o.dst (h':=hp) VR.bM hs.fV (Mu.le.refl μ);exact HA hc rest (i+1) (i :: sk) ⟨mQ env n o.dst bM,n,defs,hp⟩ _ w μ wo gI hl (lu hh)
  simp only [jW] at h;split at h
  ·rename_i hg;exact LH (by unfold iW;rw [hg]) h
  ·rename_i j want hg;split at h
   ·cases h
   ·rename_i d hd;have Jm:=C7 (env:=env) hg hd
    cases hm:Qy j sk with
    |true=>
     rw [hm] at h;simp only at h;split at h
     ·rename_i vs hv;rw [hv] at Jm;exact C8 Jm h
     ·cases h
    |false=>
     rw [hm] at h;simp only at h;rcases Gf h with ⟨hv,h⟩|⟨hv,h⟩
     ·rw [hv] at Jm;rw [vw hv] at h
      cases want with
      |true=>exact LH Jm h
      |false=>exact C8 Jm h
     ·rw [hv] at Jm;rw [vw hv] at h
      cases want with
      |true=>exact C8 Jm h
      |false=>exact LH Jm h
theorem Qz(hm:P.follows .mixedOrders=true):∀ (c:Code) (s:St) (a:Act) (w:World) (μ:Mu) (K:AX->St->Bool) (Q:Exit->Act->World->Prop),SR w0 μ s a w ->
  xM w0 μ s.h w K Q->pF P (aB P) c s K=true->c.wp P Q a w:=by
 have hc:=wZ P;intro c
 induction c with
 |skip=>intro s a w μ K Q hs hl h;exact wp_skip (hl _ _ _ _ _ _ h .normal hs (Ext.refl _ _ _))
 |region id ops draw=>
  intro s a w μ K Q hs hl h;simp only [pF] at h
  cases draw with
  |true=>
   simp only at h;obtain ⟨Jf,hp,h⟩:=fP h;exact Nc hm hc hp hs (fun s' a' w' μ' hK gI hx=>hl _ _ _ _ _ _ hK .normal gI hx) (kg _ _ _ _ h)
  |false=>
   simp only at h;refine wp_region ?_;have:=HA (Q:=Q) hc ops.toList 0 [] s a w μ (fun j o hj=>by rw [Nat.zero_add];simpa using hj) hs ⟨fun s' a' w' μ' hK gI hx=>hl _ _ _ _ _ _ hK .normal gI hx,fun v vc s' a' w' μ' hK hv gI hx=>hl _ _ _ _ _ _ hK (.panic v vc hv) gI hx⟩ h;rw [range_eq_range'];simpa using this
 |seq x y Xb Xc=>
  intro s a w μ K Q hs hl h;simp only [pF] at h;refine wp_seq (Xb s a w μ _ _ hs (fun e ex s' a' w' μ' hK hq gI hx=>?_) h)
  cases hq with
  |normal=>exact Xc s' a' w' μ' K Q gI (hl.after hx) (by rw [Jk] at hK;exact hK)
  |exit id=>exact hl _ _ _ _ _ _ hK (.exit id) gI hx
  |ret=>exact hl _ _ _ _ _ _ hK .ret gI hx
  |panic v vc hv=>exact hl _ _ _ _ _ _ hK (.panic v vc hv) gI hx
 |cond c x y Xb Xc=>
  intro s a w μ K Q hs hl h;simp only [pF,ay] at h;have hcv:=hs.eval c;split at h
  ·rename_i t e;rw [e] at hcv
   cases t with
   |true=>exact wp_cond_true hcv.iK (Xb s a w μ K Q hs hl h)
   |false=>exact wp_cond_false hcv.iK (Xc s a w μ K Q hs hl h)
  ·cases h
 |block id c ih=>
  intro s a w μ K Q hs hl h;simp only [pF] at h;refine wp_block (ih s a w μ _ _ hs (fun e ex s' a' w' μ' hK hq gI hx=>?_) h)
  cases hq with
  |normal=>exact hl _ _ _ _ _ _ hK .normal gI hx
  |exit Oa=>
   simp only [Exit.inBlock];simp only [aX] at hK;by_cases e:Oa=id
   ·subst e;rw [yR] at hK;rw [if_pos rfl];exact hl _ _ _ _ _ _ hK .normal gI hx
   ·rw [if_neg e]
    have hb:Nat.beq Oa id=false:=by
     cases hq:Nat.beq Oa id with
     |false=>rfl
     |true=>exact absurd (eq_of_beq_eq_true hq) e
    rw [hb] at hK;exact hl _ _ _ _ _ _ hK (.exit Oa) gI hx
  |ret=>exact hl _ _ _ _ _ _ hK .ret gI hx
  |panic v vc hv=>exact hl _ _ _ _ _ _ hK (.panic v vc hv) gI hx
 |loop c ih=>
  intro s a w μ K Q hs hl h;simp only [pF,bV] at h;obtain ⟨I,⟨n0,hI0⟩,jb⟩:=cu.1 h;refine wp_loop_rounds (n0+1) ?_
  have key:∀ (N n:Nat) (s:St) (a:Act) (w:World) (μ:Mu),SR w0 μ s a w->xM w0 μ s.h w K Q->I n s->n<N->Code.rounds P c Q N a w:=by
   intro N
   induction N with
   |zero=>intro n s a w μ hs hl hi hn;omega
   |succ N ihn=>
    intro n s a w μ hs hl hi hn;rw [rounds_succ];refine ih s a w μ _ _ hs (fun e ex s' a' w' μ' hK hq gI hx=>?_) (jb n s hi)
    cases hq with
    |normal=>
     obtain ⟨m,Zl,Jn⟩:=cu.1 hK;exact ihn m s' a' w' μ' gI (hl.after hx) Jn (by omega)
    |exit id=>exact hl _ _ _ _ _ _ hK (.exit id) gI hx
    |ret=>exact hl _ _ _ _ _ _ hK .ret gI hx
    |panic v vc hv=>exact hl _ _ _ _ _ _ hK (.panic v vc hv) gI hx
  exact key (n0+1) n0 s a w μ hs hl hI0 (by omega)
 |exit id=>intro s a w μ K Q hs hl h;exact wp_exit (hl _ _ _ _ _ _ h (.exit id) hs (Ext.refl _ _ _))
 |ret=>intro s a w μ K Q hs hl h;exact wp_ret (hl _ _ _ _ _ _ h .ret hs (Ext.refl _ _ _))
 |_=>intros;rename_i h;simp [pF] at h
def eU:qI:=fun _=>none
theorem bN(P:Program):C6 P eU:=fun f g h=>by cases h
theorem cm(hm:P.follows .mixedOrders=true){D:qI}(hD:C6 P D){fn:Func}{c:Code}(PN:P.funcs[f]?=some fn)(hb:fn.body=some c)(QA:fn.name≠ "runtime.NumGoroutine")
  (hlen:args.length<=fn.ntmps)
  (hh:pF P (aB P) c ⟨aE args,fn.ntmps,[],h⟩ (aU P D fn.results.toList K)=true):Sem P f args h K:=by
 refine ⟨⟨fn,c,PN,hb,QA⟩,fun w0 μ w vs hg hv=>?_⟩;refine calls_of_wp_defers PN hb ?_;refine Qz (w0:=w0) hm c ⟨aE args,fn.ntmps,[],h⟩ _ w μ _ _ ⟨zV hv hlen,.nil,hg⟩ (fun e ex s' a' w' μ' hK hq gI hx=>?_) hh
 cases hq with
 |normal=>exact m8 hD _ _ none none s' a' w' μ' gI.env gI.defs gI.fV .none hx hK
 |ret=>exact m8 hD _ _ none none s' a' w' μ' gI.env gI.defs gI.fV .none hx hK
 |exit id=>cases hK
 |panic v vc hv=>exact m8 hD _ _ (some v) (some vc) s' a' w' μ' gI.env gI.defs gI.fV (.some hv) hx hK
end
end
end Go.AM
namespace Go.AM
open List Nat Bool Option
open Go Go.RowKit
noncomputable section
variable {gJ:Bool} {h:Heap}
def AV.scalar:AV->Bool
 |.undef|.bool _|.int _ _|.str _|.eH|.ax|.jJ|.nO|.qE=>true
 |_=>false
mutual
def AV.pure:AV->Bool
 |.ptr _ _|.slice _ _ _ _|.map _=>false
 |.ef cs _=>AV.cN cs
 |.au cs _ _ _=>AV.cN cs
 |.func _ a b=>AV.cN a&&AV.cN b
 |.iface _ v=>AV.pure v
 |.agg cs=>AV.cN cs
 |.tuple cs=>AV.cN cs
 |_=>true
def AV.cN:List AV->Bool
 |[]=>true
 |a :: as=>AV.pure a&&AV.cN as
end
theorem AV.l8:∀ {l:List AV},AV.cN l=true->∀ {i:Nat} {x:AV},l[i]?=some x->x.pure=true
 |a :: l,h,0,x,e=>by simp [AV.cN] at h;simp at e;subst e;exact h.1
 |a :: l,h,i+1,x,e=>by simp [AV.cN] at h;exact AV.l8 h.2 (by simpa using e)
 |[],h,i,x,e=>by simp at e
theorem AV.HB{l m:List AV}(h:AV.cN l=true)(k:AV.cN m=true):AV.cN (l++m)=true:=by
 induction l with
 |nil=>exact k
 |cons a l ih=>simp only [AV.cN,and_eq_true,cons_append] at h ⊢;exact ⟨h.1,ih h.2⟩
inductive Fz (gJ:Bool) (h:Heap):AV->AV->Prop where
 |scalar (x:AV) (hx:x.scalar=true):Fz gJ h x x
 |ef (cs pg:List AV) (off:Nat) (ho:gJ=true) (hl:cs.length=pg.length) (hr:∀ (i:Nat) (x y:AV),cs[i]?=some x->pg[i]?=some y->Fz gJ h x y):Fz gJ h (.ef cs off) (.ef pg off)
 |au (cs pg:List AV) (off len sz:Nat) (ho:gJ=true) (hl:cs.length=pg.length) (hr:∀ (i:Nat) (x y:AV),cs[i]?=some x->pg[i]?=some y->Fz gJ h x y):Fz gJ h (.au cs off len sz) (.au pg off len sz)
 |ptr (b off:Nat) (cs pg:List AV) (hb:h.get b=some (.cells cs)) (hl:cs.length=pg.length) (hr:∀ (i:Nat) (x y:AV),cs[i]?=some x->pg[i]?=some y->Fz gJ h x y):Fz gJ h (.ptr b off) (.ef pg off)
 |slice (b off len sz:Nat) (cs pg:List AV) (hb:h.get b=some (.cells cs)) (hl:cs.length=pg.length) (hr:∀ (i:Nat) (x y:AV),cs[i]?=some x->pg[i]?=some y->Fz gJ h x y):Fz gJ h (.slice b off len sz) (.au pg off len sz)
 |func (f:FuncId) (xs ys Zz YL:List AV) (h1:xs.length=Zz.length) (h2:ys.length=YL.length) (r1:∀ (i:Nat) (x y:AV),xs[i]?=some x->Zz[i]?=some y->Fz gJ h x y)
   (r2:∀ (i:Nat) (x y:AV),ys[i]?=some x->YL[i]?=some y->Fz gJ h x y):Fz gJ h (.func f xs ys) (.func f Zz YL)
 |iface (t:TypeId) (x y:AV) (hr:Fz gJ h x y):Fz gJ h (.iface t x) (.iface t y)
 |agg (cs pg:List AV) (hl:cs.length=pg.length) (hr:∀ (i:Nat) (x y:AV),cs[i]?=some x->pg[i]?=some y->Fz gJ h x y):Fz gJ h (.agg cs) (.agg pg)
 |tuple (cs pg:List AV) (hl:cs.length=pg.length) (hr:∀ (i:Nat) (x y:AV),cs[i]?=some x->pg[i]?=some y->Fz gJ h x y):Fz gJ h (.tuple cs) (.tuple pg)
structure mu (gJ:Bool) (h:Heap) (cs pg:List AV):Prop where
 len:cs.length=pg.length
 rel:∀ (i:Nat) (x y:AV),cs[i]?=some x->pg[i]?=some y->Fz gJ h x y
theorem mu.nil:mu gJ h [] []:=⟨rfl,by simp⟩
theorem mu.cons{x y:AV}{xs ys:List AV}(h1:Fz gJ h x y)(h2:mu gJ h xs ys):mu gJ h (x :: xs) (y :: ys):=
 ⟨by simp [h2.len],fun i u v a b=>by
  cases i with
  |zero=>simp at a b;subst a;subst b;exact h1
  |succ i=>simp at a b;exact h2.rel i u v a b⟩
theorem mu.append{xs ys us vs:List AV}(h1:mu gJ h xs us)(h2:mu gJ h ys vs):mu gJ h (xs++ys) (us++vs):=by
 induction xs generalizing us with
 |nil=>cases us with
  |nil=>exact h2
  |cons u us=>exact absurd h1.len (by simp)
 |cons x xs ih=>cases us with
  |nil=>exact absurd h1.len (by simp)
  |cons u us=>exact .cons (h1.rel 0 x u rfl rfl) (ih ⟨by simpa using h1.len,fun i a b p q=>h1.rel (i+1) a b (by simpa using p) (by simpa using q)⟩)
mutual
theorem Fz.dX{h:Heap}:∀ {x:AV},x.pure=true->Fz true h x x
 |.undef,_=>.scalar _ rfl
 |.bool _,_=>.scalar _ rfl
 |.int _ _,_=>.scalar _ rfl
 |.str _,_=>.scalar _ rfl
 |.eH,_=>.scalar _ rfl
 |.ax,_=>.scalar _ rfl
 |.jJ,_=>.scalar _ rfl
 |.nO,_=>.scalar _ rfl
 |.qE,_=>.scalar _ rfl
 |.ef cs off,hp=>.ef cs cs off rfl rfl (mu.dX hp).rel
 |.au cs off len sz,hp=>.au cs cs off len sz rfl rfl (mu.dX hp).rel
 |.func f a b,hp=>by
  simp only [AV.pure,and_eq_true] at hp;exact .func f a b a b rfl rfl (mu.dX hp.1).rel (mu.dX hp.2).rel
 |.iface t x,hp=>.iface t x x (Fz.dX hp)
 |.agg cs,hp=>.agg cs cs rfl (mu.dX hp).rel
 |.tuple cs,hp=>.tuple cs cs rfl (mu.dX hp).rel
 |.ptr _ _,hp=>by cases hp
 |.slice _ _ _ _,hp=>by cases hp
 |.map _,hp=>by cases hp
theorem mu.dX{h:Heap}:∀ {l:List AV},AV.cN l=true->mu true h l l
 |[],_=>.nil
 |a :: l,hp=>by
  simp only [AV.cN,and_eq_true] at hp;exact .cons (Fz.dX hp.1) (mu.dX hp.2)
end
section
variable {P:Program} {w0 w w':World} {μ μ':Mu} {h h':Heap}
def Mu.KS(μ:Mu)(w:World)(c:Nat):Option (List Value):=
 match μ.z c with
 |some vs=>some vs
 |none=>@ite _ (∃ b k,μ b=some k/\k.c=c) (Classical.propDecidable _) (match w.heap[c]? with|some (.cells arr _ _)=>some arr.toList|_=>none) none
theorem Mu.yT{c:Nat}{vs:List Value}(hz:μ.z c=some vs):μ.KS w c=some vs:=by unfold Mu.KS;rw [hz]
theorem Mu.Tp{b:Nat}{k:Ho}(hb:μ b=some k)(hz:μ.z k.c=none){arr:Array Value}{e:TypeId}{fr:Nat×Nat}(hc:w.heap[k.c]?=some (.cells arr e fr)):μ.KS w k.c=some arr.toList:=by
 unfold Mu.KS;rw [hz];simp only;rw [if_pos ⟨b,k,hb,rfl⟩,hc]
theorem Mu.Nh{c:Nat}{vs:List Value}(h:μ.KS w c=some vs):μ.z c=some vs\/((∃ b k,μ b=some k/\k.c=c)/\∃ arr e fr,w.heap[c]?=some (.cells arr e fr)/\arr.toList=vs):=by
 unfold Mu.KS at h;split at h
 ·rename_i vs' hz;cases h;exact .inl hz
 ·split at h
  ·rename_i hex;split at h
   ·rename_i arr e fr hc;cases h;exact .inr ⟨hex,arr,e,fr,hc,rfl⟩
   ·cases h
  ·cases h
def Mu.HC(μ μ':Mu)(w w':World):Mu:=⟨μ.m,fun c=>@ite _ ((∃ vs,μ.z c=some vs)\/w.heap.size<=c) (Classical.propDecidable _) (μ'.KS w' c) none⟩
theorem Gg(Na:Good w0 μ' h' w'){ν:Mu}(Xf:∀ b k,μ' b=some k->∀ vs,μ'.KS w' k.c=some vs->ν.z k.c=some vs)(hold:gJ=true->∀ c vs,μ'.z c=some vs->ν.z c=some vs){x y:AV}(hf:Fz gJ h' x y):∀ v,VR w0 μ' x v->VR w0 ν y v:=by
 have Tq:∀ b k cs,μ' b=some k->h'.get b=some (.cells cs)->∃ vs:List Value,vs.length=cs.length/\(ν.z k.c).isSome=true/\(∀ (i:Nat) (v:Value),vs[i]?=some v->ν.cell k.c (k.base+i)=some v) /\
   ∀ (i:Nat) (x:AV) (v:Value),cs[i]?=some x->vs[i]?=some v->VR w0 μ' x v:=by
  intro b k cs hb ho;obtain ⟨arr,e,fr,h1,h2,h3,h4,h5⟩:=Na.obj b k _ hb ho;have hz:ν.z k.c=some arr.toList:=Xf b k hb _ (Mu.Tp hb (Na.apart b k hb) h1);refine ⟨(arr.toList.drop k.base).take cs.length,by simp;omega,by rw [hz];rfl,fun i v hi=>?_,fun i x v hx hi=>?_⟩
  ·rw [getElem?_take] at hi;split at hi
   ·rw [getElem?_drop] at hi;unfold Mu.cell;rw [hz];exact hi
   ·cases hi
  ·obtain ⟨v',KT,LI⟩:=h5 i x hx;rw [getElem?_take] at hi;split at hi
   ·rw [getElem?_drop,Array.getElem?_toList,KT] at hi;cases hi;exact LI
   ·cases hi
 have rows:∀ {cs pg:List AV} {vs:List Value},cs.length=pg.length->cs.length=vs.length->(∀ (i:Nat) (x y:AV),cs[i]?=some x->pg[i]?=some y->∀ v,VR w0 μ' x v->VR w0 ν y v) ->
   (∀ (i:Nat) (x:AV) (v:Value),cs[i]?=some x->vs[i]?=some v->VR w0 μ' x v)->∀ (i:Nat) (y:AV) (v:Value),pg[i]?=some y->vs[i]?=some v->VR w0 ν y v:=by
  intro cs pg vs hl Wc ih hr i y v hy hv;have hi:i<pg.length:=(kT.1 hy).1;have hx:cs[i]?=some (cs[i]'(by omega)):=ez (by omega);exact ih i _ y hx hy v (hr i _ v hx hv)
 induction hf with
 |scalar x hx=>
  intro v hv;cases hv<;>simp only [AV.scalar,false_eq_true,reduceCtorEq] at hx<;>constructor
 |ef cs pg off ho hl hr ih=>
  intro v hv;cases hv;rename_i g o vs hg hv CT yo;refine .ef pg off g o vs ?_ (by omega) (fun i v hi=>?_) (rows hl CT ih yo)
  ·trivial
  ·have:=hv i v hi;unfold Mu.cell at this ⊢;obtain ⟨zs,hz,IE⟩:=bind_eq_some_iff.1 this;rw [hold ho _ _ hz];exact IE
 |au cs pg off len sz ho hl hr ih=>
  intro v hv;cases hv;rename_i cap a g o vs hg hv CT yo ha hc;refine .au pg off len sz cap a g o vs ?_ (by omega) (fun i v hi=>?_) (rows hl CT ih yo) hc ha
  ·trivial
  ·have:=hv i v hi;unfold Mu.cell at this ⊢;obtain ⟨zs,hz,IE⟩:=bind_eq_some_iff.1 this;rw [hold ho _ _ hz];exact IE
 |ptr b off cs pg hb hl hr ih=>
  intro v hv;cases hv;rename_i k hk;obtain ⟨vs,q1,q2,q3,q4⟩:=Tq b k cs hk hb;exact .ef pg off k.c k.base vs trivial (by omega) q3 (rows hl (by omega) ih q4)
 |slice b off len sz cs pg hb hl hr ih=>
  intro v hv;cases hv;rename_i cap a k hk hc ha;obtain ⟨vs,q1,q2,q3,q4⟩:=Tq b k cs hk hb;exact .au pg off len sz cap a k.c k.base vs trivial (by omega) q3 (rows hl (by omega) ih q4) hc (fun h0=>(ha h0).1)
 |func f xs ys Zz YL h1 h2 r1 r2 Zb Zc=>
  intro v hv;cases hv;rename_i us vs g1 q1 g2 q2;exact .func f Zz YL us vs (by omega) (by omega) (rows h1 g1 Zb q1) (rows h2 g2 Zc q2)
 |iface t x y hr ih=>
  intro v hv;cases hv;rename_i v hv;exact .iface t y v (ih v hv)
 |agg cs pg hl hr ih=>
  intro v hv;cases hv;rename_i vs CT yo;exact .agg pg vs (by omega) (rows hl CT ih yo)
 |tuple cs pg hl hr ih=>
  intro v hv;cases hv;rename_i vs CT yo;exact .tuple pg vs (by omega) (rows hl CT ih yo)
theorem Gh{ν:Mu}(hν:ν.m=fun _=>none)(hg:Good w0 μ h w)(Na:Good w0 μ' h' w')(hx:Ext ν Heap.empty w μ' h' w')(hz:∀ c vs,μ.z c=some vs->ν.z c=some vs) :
  Good w0 (μ.HC μ' w w') h w'/\Ext μ h w (μ.HC μ' w w') h w':=by
 have hf:∀ k,k<w.heap.size->w'.heap[k]?=w.heap[k]?:=fun k hk=>hx.frame k hk (by simp [hν])
 have qd:∀ c vs,(μ.HC μ' w w').z c=some vs->μ.z c=some vs\/w.heap.size<=c:=by
  intro c vs hc;have EZ:@ite _ ((∃ vs,μ.z c=some vs)\/w.heap.size<=c) (Classical.propDecidable _) (μ'.KS w' c) none=some vs:=hc;split at EZ
  ·rename_i hor;rcases hor with ⟨vs',hv⟩|SH
   ·rw [Mu.yT (hx.mono.yB _ _ (hz _ _ hv))] at EZ;cases EZ;exact .inl hv
   ·exact .inr SH
  ·cases EZ
 have QB:∀ c vs,μ.z c=some vs->(μ.HC μ' w w').z c=some vs:=by
  intro c vs hv;show @ite _ ((∃ vs,μ.z c=some vs)\/w.heap.size<=c) (Classical.propDecidable _) (μ'.KS w' c) none=some vs;rw [if_pos (.inl ⟨vs,hv⟩)];exact Mu.yT (hx.mono.yB _ _ (hz _ _ hv))
 have hle:μ.le (μ.HC μ' w w'):=⟨fun _ _ h=>h,QB⟩
 refine ⟨⟨Na.below,hg.clean,hg.fresh,fun b k hb=>?_,fun c vs hc=>?_,fun b k hb=>?_,fun b k o hb ho=>?_,hg.inj⟩,⟨hle,fun k hk _=>hf k hk,fun _ _ h=>.inl h,hx.size,dK _,fun _ _ _=>rfl,fun _ _ h=>.inl h,qd⟩⟩
 ·have:=hg.own b k hb;have:=hx.size;omega
 ·have EZ:@ite _ ((∃ vs,μ.z c=some vs)\/w.heap.size<=c) (Classical.propDecidable _) (μ'.KS w' c) none=some vs:=hc;split at EZ
  ·rcases Mu.Nh EZ with h1|⟨_,h1⟩
   ·exact Na.yB c vs h1
   ·exact h1
  ·cases EZ
 ·cases hq:(μ.HC μ' w w').z k.c with
  |none=>rfl
  |some vs=>
   have fq:μ b=some k:=hb;rcases qd _ _ hq with h1|h1
   ·rw [hg.apart b k fq] at h1;cases h1
   ·have:=(hg.own b k fq).2;omega
 ·have fq:μ b=some k:=hb;rw [hf _ (hg.own b k fq).2];exact om.mono hle (hg.obj b k o fq ho)
theorem VR.Tr(hz:∀ c vs,μ.z c=some vs->μ'.z c=some vs){x:AV}{v:Value}(hv:VR w0 μ x v)(hp:x.pure=true):VR w0 μ' x v:=by
 have Ni:∀ g,(μ.z g).isSome=true->(μ'.z g).isSome=true:=fun g hg=>by
  obtain ⟨zs,h1⟩:=isSome_iff_exists.1 hg;rw [hz _ _ h1];rfl
 have hcell:∀ g i v,μ.cell g i=some v->μ'.cell g i=some v:=fun g i v hc=>by
  unfold Mu.cell at hc ⊢;obtain ⟨zs,h1,h2⟩:=bind_eq_some_iff.1 hc;rw [hz _ _ h1];exact h2
 induction hv with
 |undef v=>exact .undef v
 |bool b=>exact .bool b
 |int k n=>exact .int k n
 |str s=>exact .str s
 |eH=>exact .eH
 |ptr b off k hk=>cases hp
 |ef cs off g o vs hg hl hv hr ih=>exact .ef cs off g o vs trivial hl (fun i v h=>hcell _ _ _ (hv i v h)) (fun i x v hx hv=>ih i x v hx hv (AV.l8 hp hx))
 |ax=>exact .ax
 |slice b off len sz cap a k hk hc ha=>cases hp
 |au cs off len sz cap a g o vs hg hl hv hr hc ha ih=>exact .au cs off len sz cap a g o vs trivial hl (fun i v h=>hcell _ _ _ (hv i v h)) (fun i x v hx hv=>ih i x v hx hv (AV.l8 hp hx)) hc ha
 |jJ=>exact .jJ
 |map b k hk=>cases hp
 |nO=>exact .nO
 |func f xs ys us vs h1 h2 r1 r2 Zb Zc=>
  simp only [AV.pure,and_eq_true] at hp;exact .func f xs ys us vs h1 h2 (fun i x v hx hv=>Zb i x v hx hv (AV.l8 hp.1 hx)) (fun i x v hx hv=>Zc i x v hx hv (AV.l8 hp.2 hx))
 |qE=>exact .qE
 |iface t x v h ih=>exact .iface t x v (ih hp)
 |agg cs vs hl hr ih=>exact .agg cs vs hl (fun i x v hx hv=>ih i x v hx hv (AV.l8 hp hx))
 |tuple cs vs hl hr ih=>exact .tuple cs vs hl (fun i x v hx hv=>ih i x v hx hv (AV.l8 hp hx))
theorem Nj{ν:Mu}(hν:ν.m=fun _=>none)(Na:Good w0 μ' h' w')(hx:Ext ν Heap.empty w μ' h' w')(hz:gJ=true->∀ c vs,ν.z c=some vs->μ.z c=some vs){x y:AV}(hf:Fz gJ h' x y){v:Value}(hv:VR w0 μ' x v) :
  VR w0 (μ.HC μ' w w') y v:=by
 have key:∀ c vs,μ'.KS w' c=some vs->((∃ vs,μ.z c=some vs)\/w.heap.size<=c)->(μ.HC μ' w w').z c=some vs:=by
  intro c vs hi hor;show @ite _ ((∃ vs,μ.z c=some vs)\/w.heap.size<=c) (Classical.propDecidable _) (μ'.KS w' c) none=some vs;rw [if_pos hor];exact hi
 refine Gg Na (ν:=μ.HC μ' w w') (fun b k hb vs hi=>key _ _ hi (.inr ?_)) (fun ho c vs hc=>key _ _ (Mu.yT hc) ?_) hf v hv
 ·rcases hx.new b k hb with h1|h1|⟨b0,k0,h1,_⟩
  ·rw [hν] at h1;cases h1
  ·exact h1
  ·rw [hν] at h1;cases h1
 ·rcases hx.yC c vs hc with h1|h1
  ·exact .inl ⟨vs,hz ho _ _ h1⟩
  ·exact .inr h1
theorem Sem.frozen{f:FuncId}{args:List AV}{K0 K:Out->Heap->Bool}(hs:Sem P f args Heap.empty K0)(hp:AV.cN args=true)
  (hk:∀ o h',K0 o h'=true->∃ v r,o = .ret v/\Fz true h' v r/\K (.ret r) h=true):Sem P f args h K:=by
 refine ⟨hs.1,fun w0 μ w vs hg hv=>?_⟩;have ER:ep w0 μ.bare args vs:=⟨hv.len,fun i x v hx FZ=>VR.Tr (μ:=μ) (μ':=μ.bare) (fun _ _ h=>h) (hv.rel i x v hx FZ) (AV.l8 hp hx)⟩
 refine (hs.2 w0 μ.bare w vs hg.nothing ER).mono fun e w' hr=>?_
 cases e with
 |returned vc=>
  obtain ⟨v,h',μ',k1,k2,k3,k4⟩:=hr;obtain ⟨v',r,he,hf,hK⟩:=hk _ _ k1;cases he;obtain ⟨g1,g2⟩:=Gh rfl hg k3 k4 (fun _ _ h=>h);exact ⟨r,h,_,hK,Nj (μ:=μ) rfl k3 k4 (fun _ _ _ h=>h) hf k2,g1,g2⟩
 |panicked c=>
  obtain ⟨v,vc,h',μ',k1,_⟩:=hr;obtain ⟨v',r,he,_⟩:=hk _ _ k1;cases he
 |outgrown=>exact hr.elim
theorem Good.aeN(hg:Good w0 μ h w):Good w0 ⟨fun _=>none,μ.KS w⟩ Heap.empty w:=
 ⟨hg.below,Heap.uk,by simp,by simp,fun c vs hc=>by
  rcases Mu.Nh hc with h1|⟨_,h1⟩
  ·exact hg.yB c vs h1
  ·exact h1,by simp,by simp,by simp⟩
theorem Sem.Xg{f:FuncId}{args w8:List AV}{K0 K:Out->Heap->Bool}(hs:Sem P f w8 Heap.empty K0)(hp:mu true h args w8)
  (hk:∀ o h',K0 o h'=true->∃ v r,o = .ret v/\Fz false h' v r/\K (.ret r) h=true):Sem P f args h K:=by
 refine ⟨hs.1,fun w0 μ w vs hg hv=>?_⟩
 have ER:ep w0 ⟨fun _=>none,μ.KS w⟩ w8 vs:=by
  refine ⟨by rw [<- hp.len];exact hv.len,fun i y v hy FZ=>?_⟩;have hi:i<w8.length:=(kT.1 hy).1;have hx:args[i]?=some (args[i]'(by rw [hp.len];exact hi)):=ez _;exact Gg hg (ν:=⟨fun _=>none,μ.KS w⟩) (fun _ _ _ _ h=>h) (fun _ c vs h=>Mu.yT h) (hp.rel i _ y hx hy) v (hv.rel i _ v hx FZ)
 refine (hs.2 w0 _ w vs hg.aeN ER).mono fun e w' hr=>?_
 cases e with
 |returned vc=>
  obtain ⟨v,h',μ',k1,k2,k3,k4⟩:=hr;obtain ⟨v',r,he,hf,hK⟩:=hk _ _ k1;cases he;obtain ⟨g1,g2⟩:=Gh rfl hg k3 k4 (fun c vs h=>Mu.yT h);exact ⟨r,h,_,hK,Nj (μ:=μ) rfl k3 k4 (fun h=>by cases h) hf k2,g1,g2⟩
 |panicked c=>
  obtain ⟨v,vc,h',μ',k1,_⟩:=hr;obtain ⟨v',r,he,_⟩:=hk _ _ k1;cases he
 |outgrown=>exact hr.elim
end
end
end Go.AM
namespace Go.AM
open List Nat Bool Option
open Go Go.RowKit
noncomputable section
def zW(f:AV->Option AV):List AV->Option (List AV)
 |[]=>some []
 |x :: xs=>match f x with
  |none=>none
  |some y=>match zW f xs with
   |none=>none
   |some ys=>some (y :: ys)
def ki(gJ:Bool)(h:Heap):Nat->AV->Option AV
 |0,_=>none
 |n+1,x=>match x with
  |.ptr b off=>(match h.get b with
   |some (.cells cs)=>(match zW (ki gJ h n) cs with|some ds=>some (.ef ds off)|none=>none)
   |_=>none)
  |.slice b off len sz=>(match h.get b with
   |some (.cells cs)=>(match zW (ki gJ h n) cs with|some ds=>some (.au ds off len sz)|none=>none)
   |_=>none)
  |.ef cs off=>@Bool.rec (fun _=>Option AV) none (match zW (ki gJ h n) cs with|some ds=>some (.ef ds off)|none=>none) gJ
  |.au cs off len sz=>@Bool.rec (fun _=>Option AV) none (match zW (ki gJ h n) cs with|some ds=>some (.au ds off len sz)|none=>none) gJ
  |.func f a b=>(match zW (ki gJ h n) a with
   |none=>none
   |some a'=>match zW (ki gJ h n) b with
    |none=>none
    |some b'=>some (.func f a' b'))
  |.iface t v=>(match ki gJ h n v with|some w=>some (.iface t w)|none=>none)
  |.agg cs=>(match zW (ki gJ h n) cs with|some ds=>some (.agg ds)|none=>none)
  |.tuple cs=>(match zW (ki gJ h n) cs with|some ds=>some (.tuple ds)|none=>none)
  |.map _=>none
  |x=>some x
theorem nA{gJ:Bool}{h:Heap}{f:AV->Option AV}(hf:∀ x y,f x=some y->Fz gJ h x y):∀ {xs ys:List AV},zW f xs=some ys->mu gJ h xs ys
 |[],ys,e=>by simp only [zW,Option.some.injEq] at e;subst e;exact .nil
 |x :: xs,ys,e=>by
  simp only [zW] at e;split at e
  ·cases e
  ·rename_i y hy;split at e
   ·cases e
   ·rename_i YL Ze;cases e;exact .cons (hf _ _ hy) (nA hf Ze)
theorem rZ{gJ:Bool}{h:Heap}:∀ (n:Nat) (x y:AV),ki gJ h n x=some y->Fz gJ h x y
 |0,x,y,e=>by cases e
 |n+1,x,y,e=>by
  have ih:=fun x y=>rZ (gJ:=gJ) (h:=h) n x y;cases x<;>simp only [ki,Option.some.injEq,reduceCtorEq] at e
  case undef=>subst e;exact .scalar _ rfl
  case bool=>subst e;exact .scalar _ rfl
  case int=>subst e;exact .scalar _ rfl
  case str=>subst e;exact .scalar _ rfl
  case eH=>subst e;exact .scalar _ rfl
  case ax=>subst e;exact .scalar _ rfl
  case jJ=>subst e;exact .scalar _ rfl
  case nO=>subst e;exact .scalar _ rfl
  case qE=>subst e;exact .scalar _ rfl
  case ptr b off=>
   split at e
   ·rename_i cs hb;split at e
    ·rename_i ds hd;cases e;have:=nA ih hd;exact .ptr b off cs ds hb this.len this.rel
    ·cases e
   ·cases e
  case slice b off len sz=>
   split at e
   ·rename_i cs hb;split at e
    ·rename_i ds hd;cases e;have:=nA ih hd;exact .slice b off len sz cs ds hb this.len this.rel
    ·cases e
   ·cases e
  case ef cs off=>
   cases ho:gJ with
   |false=>rw [ho] at e;cases e
   |true=>
    rw [<- ho];rw [ho] at e;simp only at e;split at e
    ·rename_i ds hd;cases e;rw [<- ho] at hd;have:=nA ih hd;exact .ef cs ds off ho this.len this.rel
    ·cases e
  case au cs off len sz=>
   cases ho:gJ with
   |false=>rw [ho] at e;cases e
   |true=>
    rw [<- ho];rw [ho] at e;simp only at e;split at e
    ·rename_i ds hd;cases e;rw [<- ho] at hd;have:=nA ih hd;exact .au cs ds off len sz ho this.len this.rel
    ·cases e
  case func f a b=>
   split at e
   ·cases e
   ·rename_i a' ha;split at e
    ·cases e
    ·rename_i b' hb;cases e;have h1:=nA ih ha;have h2:=nA ih hb;exact .func f a b a' b' h1.len h2.len h1.rel h2.rel
  case iface t v=>
   split at e
   ·rename_i w hw;cases e;exact .iface t v w (ih _ _ hw)
   ·cases e
  case agg cs=>
   split at e
   ·rename_i ds hd;cases e;have:=nA ih hd;exact .agg cs ds this.len this.rel
   ·cases e
  case tuple cs=>
   split at e
   ·rename_i ds hd;cases e;have:=nA ih hd;exact .tuple cs ds this.len this.rel
   ·cases e
def cB(gJ:Bool)(n:Nat)(r:AV):Out->Heap->Bool
 |.ret v,h=>(match ki gJ h n v with|some r'=>AV.beq r' r|none=>false)
 |_,_=>false
def jc(a0:List AV)(r:AV):List AV->Heap->(Out->Heap->Bool)->Bool:=fun args h K=>
 AV.yq args a0&&K (.ret r) h
def dP(n:Nat)(a0:List AV)(r:AV):List AV->Heap->(Out->Heap->Bool)->Bool:=fun args h K=>
 match zW (ki true h n) args with
 |some as=>AV.yq as a0&&K (.ret r) h
 |none=>false
theorem cO{P:Program}{call:jS}(hs:fZ P call){f:FuncId}{a0:List AV}{n:Nat}{r:AV}(hp:AV.cN a0=true)(he:call f a0 Heap.empty (cB true n r)=true)
  (args:List AV) (h:Heap) (K:Out->Heap->Bool) (hK:jc a0 r args h K=true):Sem P f args h K:=by
 simp only [jc,and_eq_true] at hK;obtain rfl:=AV.ox _ _ hK.1;refine Sem.frozen (hs.Wb he) hp fun o h' ho=>?_
 cases o with
 |ret v=>
  simp only [cB] at ho;split at ho
  ·rename_i r' hr;obtain rfl:=AV.beq_eq _ _ ho;exact ⟨v,_,rfl,rZ _ _ _ hr,hK.2⟩
  ·cases ho
 |panic v=>cases ho
theorem bh{P:Program}{call:jS}(hs:fZ P call){f:FuncId}{a0:List AV}{n m:Nat}{r:AV}(he:call f a0 Heap.empty (cB false n r)=true)
  (args:List AV) (h:Heap) (K:Out->Heap->Bool) (hK:dP m a0 r args h K=true):Sem P f args h K:=by
 unfold dP at hK;split at hK
 ·rename_i as ha;simp only [and_eq_true] at hK;obtain rfl:=AV.ox _ _ hK.1;refine Sem.Xg (hs.Wb he) (nA (fun x y=>rZ m x y) ha) fun o h' ho=>?_
  cases o with
  |ret v=>
   simp only [cB] at ho;split at ho
   ·rename_i r' hr;obtain rfl:=AV.beq_eq _ _ ho;exact ⟨v,_,rfl,rZ _ _ _ hr,hK.2⟩
   ·cases ho
  |panic v=>cases ho
 ·cases hK
end
end Go.AM