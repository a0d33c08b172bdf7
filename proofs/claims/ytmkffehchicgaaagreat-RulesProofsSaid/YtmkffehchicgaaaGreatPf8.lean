/- Parts of the proof. Conditions: none. -/
import Derived.Test.YtmkffehchicgaaaGreatPf7
import Derived.LoopN
set_option linter.unusedSimpArgs false
set_option linter.unusedVariables false
namespace Go.AM
open List Nat Bool Option
open Go Go.RowKit
inductive AXR (w0:World) (μ:Mu):AX->Exit->Prop where
 |normal:AXR w0 μ .normal .normal
 |exit (id:Nat):AXR w0 μ (.exit id) (.exit id)
 |ret:AXR w0 μ .ret .ret
 |panic (v:AV) (vc:Value) (h:VR w0 μ v vc):AXR w0 μ (.panic v) (.panic [{ v:=vc,recovered:=false }])
def zI(w0:World)(μ:Mu)(h:ag)(w:World)(K:AX->St->Bool)(Q:Exit->Act->World->Prop):Prop:=
 ∀ (e:AX) (ex:Exit) (s':St) (a':Act) (w':World) (μ':Mu),K e s'=true->AXR w0 μ' e ex->SR w0 μ' s' a' w'->Ext μ h w μ' s'.h w'->Q ex a' w'
section
variable {P:Program} {w0 w:World} {μ μ':Mu} {h h':ag} {s:St} {a:Act}
theorem zI.after{K:AX->St->Bool}{Q:Exit->Act->World->Prop}(hl:zI w0 μ h w K Q){w':World}(hx:Ext μ h w μ' h' w'):zI w0 μ' h' w' K Q:=
 fun e ex s2 a2 w2 μ2 k2 q2 r2 x2=>hl e ex s2 a2 w2 μ2 k2 q2 r2 (hx.trans x2)
theorem Md(env:Env):∀ (n i t:Nat),aI (Og env n i) t=if t<n then env (i+t) else bK
 |0,i,t=>by simp [Og,aI]
 |n+1,i,t=>by
  cases t with
  |zero=>simp [Og,aI]
  |succ t=>
   simp only [Og,aI,Md env n (i+1) t];rw [show i+1+t=i+(t+1) by omega];by_cases h:t<n
   ·rw [if_pos h,if_pos (by omega)]
   ·rw [if_neg h,if_neg (by omega)]
theorem SR.TF(hs:SR w0 μ s a w):SR w0 μ s.TF a w:=by
 refine ⟨⟨hs.env.1,fun t=>?_⟩,hs.defs,hs.iP⟩;show VR w0 μ (aI (Og s.env s.n 0) t) _;rw [Md];by_cases h:t<s.n
 ·rw [if_pos h,Nat.zero_add];exact hs.env.2 t
 ·rw [if_neg h]
  have:a.tmps.getD t undef=undef:=by
   have h1:=hs.env.1;rw [Array.getD_eq_getD_getElem?,Array.getElem?_eq_none (by omega)];rfl
  rw [this];exact VR.bK
theorem Qt(hm:P.follows .mixedOrders=true){call:lI}(hc:g9 P call)(rounds:Nat):∀ (c:Code) (s:St) (a:Act) (w:World) (μ:Mu) (K:AX->St->Bool) (Q:Exit->Act->World->Prop),SR w0 μ s a w ->
  zI w0 μ s.h w K Q->evalCode P call rounds c s K=true->c.wp P Q a w:=by
 intro c
 induction c with
 |skip=>intro s a w μ K Q hs hl h;exact wp_skip (hl _ _ _ _ _ _ h .normal hs (Ext.refl _ _ _))
 |region id ops draw=>
  intro s a w μ K Q hs hl h;simp only [evalCode] at h
  cases draw with
  |true=>
   rw [if_pos rfl] at h;obtain ⟨Mc,hp,h⟩:=gH h;exact Qs hm hc hp hs (fun s' a' w' μ' hK jc hx=>hl _ _ _ _ _ _ hK .normal jc hx) h
  |false=>
   simp only [false_eq_true,if_false] at h;refine wp_region ?_;have:=OD (Q:=Q) hc ops.toList 0 s a w μ (fun j o hj=>by rw [Nat.zero_add];simpa using hj) hs ⟨fun s' a' w' μ' hK jc hx=>hl _ _ _ _ _ _ hK .normal jc hx,fun v vc s' a' w' μ' hK hv jc hx=>hl _ _ _ _ _ _ hK (.panic v vc hv) jc hx⟩ h;rw [range_eq_range'];simpa using this
 |seq x y ihx ihy=>
  intro s a w μ K Q hs hl h;simp only [evalCode] at h;refine wp_seq (ihx s a w μ _ _ hs (fun e ex s' a' w' μ' hK hq jc hx=>?_) h)
  cases hq with
  |normal=>exact ihy s' a' w' μ' K Q jc (hl.after hx) hK
  |exit id=>exact hl _ _ _ _ _ _ hK (.exit id) jc hx
  |ret=>exact hl _ _ _ _ _ _ hK .ret jc hx
  |panic v vc hv=>exact hl _ _ _ _ _ _ hK (.panic v vc hv) jc hx
 |cond c x y ihx ihy=>
  intro s a w μ K Q hs hl h;simp only [evalCode] at h;have AI:=hs.eval c;split at h
  ·rename_i e;rw [e] at AI;exact wp_cond_true AI.jO (ihx s a w μ K Q hs hl h)
  ·rename_i e;rw [e] at AI;exact wp_cond_false AI.jO (ihy s a w μ K Q hs hl h)
  ·cases h
 |block id c ih=>
  intro s a w μ K Q hs hl h;simp only [evalCode] at h;refine wp_block (ih s a w μ _ _ hs (fun e ex s' a' w' μ' hK hq jc hx=>?_) h)
  cases hq with
  |normal=>exact hl _ _ _ _ _ _ hK .normal jc hx
  |exit Ro=>
   simp only [Exit.inBlock];simp only at hK;by_cases e:Ro=id
   ·rw [if_pos e];rw [if_pos e] at hK;exact hl _ _ _ _ _ _ hK .normal jc hx
   ·rw [if_neg e];rw [if_neg e] at hK;exact hl _ _ _ _ _ _ hK (.exit Ro) jc hx
  |ret=>exact hl _ _ _ _ _ _ hK .ret jc hx
  |panic v vc hv=>exact hl _ _ _ _ _ _ hK (.panic v vc hv) jc hx
 |loop c ih=>
  intro s a w μ K Q hs hl h;simp only [evalCode] at h;refine wp_loop_rounds rounds ?_
  have key:∀ (n:Nat) (s:St) (a:Act) (w:World) (μ:Mu),SR w0 μ s a w->zI w0 μ s.h w K Q->iter (evalCode P call rounds c) K n s=true->Code.rounds P c Q n a w:=by
   intro n
   induction n with
   |zero=>intro s a w μ hs hl h;cases h
   |succ n ihn=>
    intro s a w μ hs hl h;simp only [iter] at h;rw [rounds_succ];refine ih s a w μ _ _ hs (fun e ex s' a' w' μ' hK hq jc hx=>?_) h
    cases hq with
    |normal=>exact ihn s'.TF a' w' μ' jc.TF (hl.after hx) hK
    |exit id=>exact hl _ _ _ _ _ _ hK (.exit id) jc hx
    |ret=>exact hl _ _ _ _ _ _ hK .ret jc hx
    |panic v vc hv=>exact hl _ _ _ _ _ _ hK (.panic v vc hv) jc hx
  exact key rounds s a w μ hs hl h
 |exit id=>intro s a w μ K Q hs hl h;exact wp_exit (hl _ _ _ _ _ _ h (.exit id) hs (Ext.refl _ _ _))
 |ret=>intro s a w μ K Q hs hl h;exact wp_ret (hl _ _ _ _ _ _ h .ret hs (Ext.refl _ _ _))
 |_=>intros;rename_i h;simp [evalCode] at h
def rH(vc:Option Value):FrameMode:=match vc with
 |none=>.returning
 |some v=>.panicking [{ v,recovered:=false }]
inductive HC (w0:World) (μ:Mu):Option AV->Option Value->Prop where
 |none:HC w0 μ none none
 |some {v:AV} {vc:Value} (h:VR w0 μ v vc):HC w0 μ (some v) (some vc)
def Fq(P:Program)(D:tg):Prop:=
 ∀ f g,D f=some g->Enters P f/\∀ (args:List AV) (LG:Option AV) (h:ag) (K:Option AV->ag->Bool),g args LG h K=true ->
  ∀ (w0:World) (μ:Mu) (w:World) (vs:List Value) (pv:Option Value),Good w0 μ h w->fO w0 μ args vs->HC w0 μ LG pv->CallsD P f vs.toArray (rH pv) w fun
   |.returned _,u',w'=>∃ vJ NR h' μ',K vJ h'=true/\HC w0 μ' vJ NR/\settle u'=rH NR/\Good w0 μ' h' w'/\Ext μ h w μ' h' w'
   |_,_,_=>False
def IW(tmps:Array Value):ResultVar->Sem Value
 |.tmp t=>pure (tmps.getD t undef)
 |.cell x t=>do loadVar t (<- asAddr (tmps.getD x undef))
theorem Me(hs:SR w0 μ s a w){r:ResultVar}{v:AV}(h:EF P s r=some v) :
  ∃ vc,(IW a.tmps r).run P w = .ok vc w/\VR w0 μ v vc:=by
 cases r with
 |tmp t=>
  simp only [EF,Option.some.injEq] at h;subst h;exact ⟨_,by simp only [IW,Sem.run_pure],hs.env.2 t⟩
 |cell x t=>
  simp only [EF] at h;split at h
  ·rename_i i hi;have hx:=hs.env.2 x;unfold ah at h;split at h
   ·rename_i b off hxe;rw [hxe] at hx;split at h
    ·rename_i cs ho;generalize WA:a.tmps.getD x undef=xv at hx;cases hx;rename_i k hk;obtain ⟨vc,h1,h2⟩:=sJ hi (hs.iP.cells hk ho) h;exact ⟨vc,by simp only [IW,WA,asAddr,Sem.run_bind,Sem.run_pure,Result.andThen_ok,h1],h2⟩
    ·cases h
   ·rename_i cs off hxe;rw [hxe] at hx;generalize WA:a.tmps.getD x undef=xv at hx;cases hx;rename_i g o vs Zp hv DG yY;obtain ⟨vc,h1,h2⟩:=sJ hi (hs.iP.Oq Zp DG hv yY) h;exact ⟨vc,by simp only [IW,WA,asAddr,Sem.run_bind,Sem.run_pure,Result.andThen_ok,h1],h2⟩
   ·cases h
  ·cases h
theorem Da(hs:SR w0 μ s a w):∀ (rs:List ResultVar) (vs:List AV),dV P s rs=some vs ->
  ∃ us:List Value,(rs.mapM (IW a.tmps)).run P w = .ok us w/\fO w0 μ vs us
 |[],vs,h=>by
  simp only [dV,Option.some.injEq] at h;subst h;exact ⟨[],by simp,.nil⟩
 |r :: rs,vs,h=>by
  simp only [dV] at h;split at h
  ·rename_i v vs' h1 h2;cases h;obtain ⟨vc,e1,e2⟩:=Me hs h1;obtain ⟨us,e3,e4⟩:=Da hs rs vs' h2;exact ⟨vc :: us,by simp only [mapM_cons,Sem.run_bind,e1,Result.andThen_ok,e3,Sem.run_pure],.cons e2 e4⟩
  ·cases h
theorem Db(hs:SR w0 μ s a w){fn:Func}{vs:List AV}(h:dV P s fn.results.toList=some vs):∃ vc,(results fn a.tmps).run P w = .ok vc w/\VR w0 μ (oneOf vs) vc:=by
 obtain ⟨us,h1,h2⟩:=Da hs _ _ h
 have hm:(results fn a.tmps).run P w = .ok (if h:us.toArray.size=1 then us.toArray[0] else .tuple us.toArray) w:=by
  have hr:results fn a.tmps=(do let vs <- fn.results.mapM (IW a.tmps);pure (if h:vs.size=1 then vs[0] else .tuple vs)):=by
   unfold results;congr 2
  rw [hr,<- Array.toArray_toList (xs:=fn.results),mapM_toArray];simp only [Sem.run_bind,map_eq_pure_bind,h1,Result.andThen_ok,Sem.run_pure]
 refine ⟨_,hm,?_⟩
 cases vs with
 |nil=>obtain rfl:=h2.jN;exact fO.tuple .nil
 |cons v vs=>
  obtain ⟨u,us',rfl,h3,h4⟩:=h2.cons_inv
  cases vs with
  |nil=>obtain rfl:=h4.jN;simpa [oneOf] using h3
  |cons v2 vs=>
   obtain ⟨u2,us2,rfl,h5,h6⟩:=h4.cons_inv;rw [dif_neg (by simp)];exact fO.tuple h2
theorem oT{D:tg}(hD:Fq P D){fn:Func}{μb:Mu}{hb:ag}{wb:World}{K:Out->ag->Bool}:∀ (ds:List su) (Ds:List Deferred) (LG:Option AV) (pv:Option Value) (s:St) (a:Act) (w:World) (μ:Mu),
  Fj w0 μ s.env s.n a.tmps->Ay w0 μ ds Ds->Good w0 μ s.h w->HC w0 μ LG pv->Ext μb hb wb μ s.h w->leave P D fn.results.toList K ds LG s=true ->
  Leaves P fn a.tmps (Fl w0 μb hb wb K) Ds (rH pv) w
 |[],Ds,LG,pv,s,a,w,μ,he,hd,hg,hp,hx,h=>by
  cases hd;have hs:SR w0 μ ⟨s.env,s.n,[],s.h⟩ ⟨a.tmps,[]⟩ w:=⟨he,.nil,hg⟩
  cases hp with
  |none=>
   simp only [leave] at h;obtain ⟨vs,h1,h2⟩:=gH h
   have Zs:dV P ⟨s.env,s.n,[],s.h⟩ fn.results.toList=some vs:=by
    rw [<- h1]
    have:∀ rs:List ResultVar,dV P ⟨s.env,s.n,[],s.h⟩ rs=dV P s rs:=by
     intro rs
     induction rs with
     |nil=>rfl
     |cons r rs ih=>simp only [dV,ih];cases r<;>rfl
    exact this _
   obtain ⟨vc,h3,h4⟩:=Db hs Zs;exact ⟨vc,h3,_,_,_,h2,h4,hg,hx⟩
  |some hv=>
   simp only [leave] at h;exact ⟨_,_,_,_,h,rfl,hv,hg,hx⟩
 |d :: ds,Ds,LG,pv,s,a,w,μ,he,hd,hg,hp,hx,h=>by
  cases hd with
  |cons hdr ht=>
   obtain ⟨cap,args,rfl,r1,r2⟩:=hdr;simp only [leave] at h;split at h
   ·rename_i g Qr;obtain ⟨vM,aaC⟩:=hD d.f g Qr;have hcd:=aaC _ _ _ _ h w0 μ w (args++cap) pv hg (r1.append r2) hp;refine ⟨by cases pv<;>simp [rH],.func d.f,cap.toArray,d.f,(args++cap).toArray,rfl,?_,?_⟩
    ·have e:args.toArray++cap.toArray=(args++cap).toArray:=(by simp);simp only [invoke,e,Az vM]
    ·refine CallsD.mono hcd fun e u' w' hR=>?_
     cases e with
     |returned v=>
      obtain ⟨vJ,NR,h',μ',hK,vK,hu,hg2,iu⟩:=hR;simp only;rw [hu];exact oT hD ds _ vJ NR ⟨s.env,s.n,s.defs,h'⟩ a w' μ' (he.mono iu.mono) (ht.mono iu.mono) hg2 vK (hx.trans iu) hK
     |panicked c=>exact hR.elim
     |outgrown=>exact hR.elim
   ·cases h
theorem BS{args:List AV}{vs:List Value}(h:fO w0 μ args vs){n:Nat}(hn:args.length<=n):Fj w0 μ (aI args) n (vs.toArray++Array.replicate (n-vs.toArray.size) undef):=by
 have hl:=h.len;refine ⟨by simp;omega,fun t=>?_⟩
 have key:∀ (args:List AV) (t:Nat),aI args t=(args[t]?).getD bK:=by
  intro args
  induction args with
  |nil=>intro t;simp [aI]
  |cons x xs ih=>
   intro t
   cases t with
   |zero=>simp [aI]
   |succ t=>simp [aI,ih]
 rw [key];by_cases ht:t<args.length
 ·have h1:args[t]?=some args[t]:=ec ht;obtain ⟨v,h2,h3⟩:=h.get h1;rw [h1]
  have:(vs.toArray++Array.replicate (n-vs.toArray.size) undef).getD t undef=v:=by
   rw [Array.getD_eq_getD_getElem?,Array.getElem?_append_left (by simp;omega)];simp [h2]
  rw [this];exact h3
 ·rw [getElem?_eq_none (by omega)]
  have:(vs.toArray++Array.replicate (n-vs.toArray.size) undef).getD t undef=undef:=by
   rw [Array.getD_eq_getD_getElem?,Array.getElem?_append_right (by simp;omega),Array.getElem?_replicate];split<;>rfl
  rw [this];exact VR.bK
def oU(P:Program)(F:CT):Prop:=
 ∀ f g,F f=some g->∀ args h K,g args h K=true->Enters P f/\∀ (w0:World) (μ:Mu) (w:World) (vs:List Value),Good w0 μ h w->fO w0 μ args vs->Calls P f vs.toArray w (Fl w0 μ h w K)
theorem me(hm:P.follows .mixedOrders=true){F:CT}{D:tg}(hF:oU P F)(hD:Fq P D):∀ n,g9 P (b8 P F D n)
 |0=>fun f args h K hh=>by cases hh
 |n+1=>fun f args h K hh=>by
  simp only [b8] at hh;split at hh
  ·rename_i g hg;exact hF f g hg args h K hh
  ·split at hh
   ·cases hh
   ·rename_i fn Tr;split at hh
    ·rename_i yZ;simp only [and_eq_true,decide_eq_true_eq,bne_iff_ne,ne_eq] at yZ;unfold TQ at hh;split at hh
     ·cases hh
     ·rename_i c hb;refine ⟨⟨fn,c,Tr,hb,yZ.2⟩,fun w0 μ w vs hg hv=>?_⟩;refine calls_of_wp_defers Tr hb ?_;refine Qt (w0:=w0) hm (me hm hF hD n) n c ⟨aI args,fn.ntmps,[],h⟩ _ w μ _ _ ⟨BS hv yZ.1,.nil,hg⟩ (fun e ex s' a' w' μ' hK hq jc hx=>?_) hh
      cases hq with
      |normal=>exact oT hD _ _ none none s' a' w' μ' jc.env jc.defs jc.iP .none hx hK
      |ret=>exact oT hD _ _ none none s' a' w' μ' jc.env jc.defs jc.iP .none hx hK
      |exit id=>cases hK
      |panic v vc hv=>exact oT hD _ _ (some v) (some vc) s' a' w' μ' jc.env jc.defs jc.iP (.some hv) hx hK
    ·cases hh
end
end Go.AM
namespace Go.AM
open List Nat Bool Option
open Go Go.RowKit
def WR:List Entry->List Entry->Bool
 |[],[]=>true
 |a :: as,b :: bs=>AV.beq a.1 b.1&&(AV.beq a.2.1 b.2.1&&(beq a.2.2 b.2.2&&WR as bs))
 |_,_=>false
def ag.Clean(h:ag):Prop:=∀ b,h.next<=b->h.get b=none
theorem ag.wK:ag.empty.Clean:=fun b _=>Trie.E4 b
theorem ag.Mf{h:ag}(hc:h.Clean)(o:mP):(h.alloc o).Clean:=fun b hb=>by
 simp at hb;rw [ag.aW,if_neg (by omega)];exact hc b (by omega)
section
variable {P:Program} {w0 w:World} {μ μ':Mu} {h h' h1:ag}
def Mu.bare(μ:Mu):Mu:=⟨fun _=>Option.none,μ.z⟩
def Mu.DF(μ μ':Mu):Mu:=⟨μ.m,μ'.z⟩
theorem Good.nothing(hg:Good w0 μ h w):Good w0 μ.bare ag.empty w:=
 ⟨hg.below,ag.wK,by simp [Mu.bare],by simp [Mu.bare],hg.Am,by simp [Mu.bare],by simp [Mu.bare],by simp [Mu.bare]⟩
theorem Good.aaD(hg:Good w0 μ h w){w':World}(Qr:Good w0 μ' h' w')(hx:Ext μ.bare ag.empty w μ' h' w'):Good w0 (μ.DF μ') h w'/\Ext μ h w (μ.DF μ') h w':=by
 have hf:∀ k,k<w.heap.size->w'.heap[k]?=w.heap[k]?:=fun k hk=>hx.frame k hk (by simp [Mu.bare]);refine ⟨⟨Qr.below,hg.clean,hg.fresh,fun b k hb=>?_,Qr.Am,fun b k hb=>?_,fun b k o hb ho=>?_,hg.inj⟩,⟨⟨fun _ _ h=>h,hx.mono.Am⟩,fun k hk _=>hf k hk,fun _ _ h=>.inl h,hx.size,dK _,fun _ _ _=>rfl,fun _ _ h=>.inl h,hx.DF⟩⟩
 ·have:=hg.own b k hb;have:=hx.size;omega
 ·show μ'.z k.c=none
  cases hz:μ'.z k.c with
  |none=>rfl
  |some vs=>
   rcases hx.DF _ _ hz with h1|h1
   ·have Zs:μ.z k.c=some vs:=h1;rw [hg.apart b k hb] at Zs;cases Zs
   ·have:=(hg.own b k hb).2;omega
 ·have fY:μ b=some k:=hb;rw [hf _ (hg.own b k fY).2];exact sw.mono (μ:=μ) (μ':=μ.DF μ') ⟨fun _ _ h=>h,hx.mono.Am⟩ (hg.obj b k o fY ho)
def ZA(b:Bool):List AV->ag->(Out->ag->Bool)->Bool:=fun args h K=>
 match args with
 |[]=>K (.ret (.bool b)) h
 |_=>false
def ZB(b:Bool):Out->ag->Bool
 |.ret v,_=>AV.beq v (.bool b)
 |_,_=>false
theorem Mg{call:lI}(hs:g9 P call){f:FuncId}{b:Bool}(he:call f [] ag.empty (ZB b)=true)(args:List AV)(h:ag)(K:Out->ag->Bool)(hK:ZA b args h K=true) :
  Enters P f/\∀ (w0:World) (μ:Mu) (w:World) (vs:List Value),Good w0 μ h w->fO w0 μ args vs->Calls P f vs.toArray w (Fl w0 μ h w K):=by
 obtain ⟨vM,hc⟩:=hs _ _ _ _ he;refine ⟨vM,fun w0 μ w vs hg hv=>?_⟩;unfold ZA at hK;split at hK
 ·obtain rfl:=hv.jN;refine Calls.mono (hc w0 _ w [] hg.nothing .nil) fun e w' hR=>?_
  cases e with
  |returned vc=>
   obtain ⟨v,h',μ',k1,k2,k3,k4⟩:=hR;obtain rfl:=AV.beq_eq _ _ k1;obtain ⟨g1,g2⟩:=hg.aaD k3 k4;rw [k2.jO];exact ⟨_,h,μ.DF μ',hK,.bool b,g1,g2⟩
  |panicked c=>
   obtain ⟨v,vc,h',μ',k1,_⟩:=hR;cases k1
  |outgrown=>exact hR.elim
 ·cases hK
end
end Go.AM
namespace Go.AM
open List Nat Bool Option
open Go Go.RowKit
section
variable {w0:World} {μ:Mu} {ρ:Nat->Nat}
end
mutual
theorem AV.beq_refl:∀ x:AV,AV.beq x x=true
 |.undef=>rfl
 |.bool a=>by simp [AV.beq]
 |.int k a=>by simp [AV.beq]
 |.str a=>by simp [AV.beq]
 |.gC=>rfl
 |.ptr a i=>by simp [AV.beq]
 |.dI a i=>by simp [AV.beq,AV.oV a]
 |.au=>rfl
 |.slice b i l s=>by simp [AV.beq]
 |.ay a i l s=>by simp [AV.beq,AV.oV a]
 |.kX=>rfl
 |.map a=>by simp [AV.beq]
 |.qh=>rfl
 |.func f a b=>by simp [AV.beq,AV.oV a,AV.oV b]
 |.tc=>rfl
 |.iface t v=>by simp [AV.beq,AV.beq_refl v]
 |.agg a=>by simp [AV.beq,AV.oV a]
 |.tuple a=>by simp [AV.beq,AV.oV a]
theorem AV.oV:∀ x:List AV,AV.An x x=true
 |[]=>rfl
 |a :: l=>by simp [AV.An,AV.beq_refl a,AV.oV l]
end
theorem AJ:∀ n:Nat,beq n n=true
 |0=>rfl
 |n+1=>AJ n
end Go.AM
namespace Go.AM
open List Nat Bool Option
def lP(g1 g2:List AV->ag->(Out->ag->Bool)->Bool):List AV->ag->(Out->ag->Bool)->Bool:=fun args h K=>g1 args h K||g2 args h K
theorem cC{g1 g2:List AV->ag->(Out->ag->Bool)->Bool}{args:List AV}{h:ag}{K:Out->ag->Bool}(hK:lP g1 g2 args h K=true):g1 args h K=true\/g2 args h K=true:=by
 simpa [lP] using hK
end Go.AM
namespace Go.AM
open List Nat Bool Option
open Go Go.RowKit
noncomputable section
variable {K:Out->ag->Bool} {args:List AV} {env:Env} {h:ag} {f:FuncId}
def Sem(P:Program)(f:FuncId)(args:List AV)(h:ag)(K:Out->ag->Bool):Prop:=
 Enters P f/\∀ (w0:World) (μ:Mu) (w:World) (vs:List Value),Good w0 μ h w->fO w0 μ args vs->Calls P f vs.toArray w (Fl w0 μ h w K)
theorem Fl.mono{w0 w:World}{μ:Mu}{K':Out->ag->Bool}(hk:∀ o h',K o h'=true->K' o h'=true){e:Ending}{w':World}(hr:Fl w0 μ h w K e w'):Fl w0 μ h w K' e w':=by
 cases e with
 |returned vc=>obtain ⟨v,h',μ',k1,k2⟩:=hr;exact ⟨v,h',μ',hk _ _ k1,k2⟩
 |panicked c=>obtain ⟨v,vc,h',μ',k1,k2⟩:=hr;exact ⟨v,vc,h',μ',hk _ _ k1,k2⟩
 |outgrown=>exact hr.elim
theorem Sem.mono{P:Program}{f:FuncId}{args:List AV}{h:ag}{K K':Out->ag->Bool}(hs:Sem P f args h K)(hk:∀ o h',K o h'=true->K' o h'=true):Sem P f args h K':=
 ⟨hs.1,fun w0 μ w vs hg hv=>(hs.2 w0 μ w vs hg hv).mono fun _ _ hr=>hr.mono hk⟩
def aA(P:Program):lI:=fun f args h K=>@decide (Sem P f args h K) (Classical.propDecidable _)
theorem za(P:Program):g9 P (aA P):=fun f args h K hh=>@of_decide_eq_true _ (Classical.propDecidable _) hh
theorem aj{P:Program}(hs:Sem P f args h K):aA P f args h K=true:=@_root_.decide_eq_true _ (Classical.propDecidable _) hs
theorem g9.sem{P:Program}{call:lI}(hc:g9 P call)(hh:call f args h K=true):Sem P f args h K:=hc f args h K hh
def yes(p:Prop):Bool:=@decide p (Classical.propDecidable _)
theorem cO{p:Prop}:yes p=true↔p:=@decide_eq_true_iff p (Classical.propDecidable _)
theorem Qu:∃ r:(St->(AX->St->Bool)->Bool)->St->(AX->St->Bool)->Bool,∀ f s K,r f s K=f s K:=⟨fun f s K=>f s K,fun _ _ _=>rfl⟩
def RJ:(St->(AX->St->Bool)->Bool)->St->(AX->St->Bool)->Bool:=Classical.choose Qu
theorem AL(f:St->(AX->St->Bool)->Bool)(s:St)(K:AX->St->Bool):RJ f s K=f s K:=Classical.choose_spec Qu f s K
def cS(j:Bool)(b:St->(AX->St->Bool)->Bool)(K:AX->St->Bool):AX->St->Bool
 |.normal,s'=>@Bool.rec (fun _=>Bool) (b s' K) (RJ b s' K) j
 |.exit id,s'=>K (.exit id) s'
 |.ret,s'=>K .ret s'
 |.panic v,s'=>K (.panic v) s'
theorem Mh(j:Bool)(b:St->(AX->St->Bool)->Bool)(K:AX->St->Bool)(s:St):cS j b K .normal s=b s K:=by
 cases j
 ·rfl
 ·exact AL b s K
def aZ(id:Nat)(K:AX->St->Bool):AX->St->Bool
 |.normal,s'=>K .normal s'
 |.exit Ro,s'=>@Bool.rec (fun _=>Bool) (K (.exit Ro) s') (K .normal s') (beq Ro id)
 |.ret,s'=>K .ret s'
 |.panic v,s'=>K (.panic v) s'
def az(x:AV)(a b:Bool):Bool:=
 match x with
 |.bool t=>@Bool.rec (fun _=>Bool) b a t
 |_=>false
def IY(I:Nat->St->Prop)(n:Nat)(K:AX->St->Bool):AX->St->Bool
 |.normal,s'=>yes (∃ m,m<n/\I m s')
 |.exit id,s'=>K (.exit id) s'
 |.ret,s'=>K .ret s'
 |.panic v,s'=>K (.panic v) s'
def bX(f:St->(AX->St->Bool)->Bool)(s:St)(K:AX->St->Bool):Bool:=
 yes (∃ I:Nat->St->Prop,(∃ n,I n s)/\∀ n s',I n s'->f s' (IY I n K)=true)
def Qv(ops:List Oper)(j:Nat):Option Tmp:=match ops[j]? with|some g=>g.dst|none=>none
def Ug(j:Nat):List Nat->Bool
 |[]=>false
 |k :: ks=>@Bool.rec (fun _=>Bool) (Ug j ks) true (beq j k)
def lQ(P:Program)(call:lI)(ops:List Oper):List Oper->Nat->List Nat->St->(RS->Bool)->Bool
 |[],_,_,s,K=>K (.ok s)
 |o :: rest,i,sk,⟨env,n,defs,h⟩,K=>
  match o.guard with
  |none=>kG o.op P call env defs h fun
   |.ok v defs h=>jF env n o.dst v fun env=>lQ P call ops rest (i+1) sk ⟨env,n,defs,h⟩ K
   |.panic v h=>K (.panic v ⟨env,n,defs,h⟩)
  |some (j,want)=>match Qv ops j with
   |none=>false
   |some d=>@Bool.rec (fun _=>Bool)
    (az (env d)
     (@Bool.rec (fun _=>Bool) (jF (aa env d (.bool true)) n o.dst bK fun env=>lQ P call ops rest (i+1) (i :: sk) ⟨env,n,defs,h⟩ K)
      (kG o.op P call (aa env d (.bool true)) defs h fun
       |.ok v defs h=>jF (aa env d (.bool true)) n o.dst v fun env=>lQ P call ops rest (i+1) sk ⟨env,n,defs,h⟩ K
       |.panic v h=>K (.panic v ⟨aa env d (.bool true),n,defs,h⟩)) want)
     (@Bool.rec (fun _=>Bool) (kG o.op P call (aa env d (.bool false)) defs h fun
       |.ok v defs h=>jF (aa env d (.bool false)) n o.dst v fun env=>lQ P call ops rest (i+1) sk ⟨env,n,defs,h⟩ K
       |.panic v h=>K (.panic v ⟨aa env d (.bool false),n,defs,h⟩))
      (jF (aa env d (.bool false)) n o.dst bK fun env=>lQ P call ops rest (i+1) (i :: sk) ⟨env,n,defs,h⟩ K) want))
    (match env d with
     |.tuple _=>jF env n o.dst bK fun env=>lQ P call ops rest (i+1) (i :: sk) ⟨env,n,defs,h⟩ K
     |_=>false) (Ug j sk)
def ez(P:Program)(call:lI)(ops:List Oper)(ms:List Nat):List (Nat×Oper)->List Read->List Nat->St->(St->Bool)->Bool
 |[],_,_,s,K=>K s
 |p :: rest,lg,sk,⟨env,n,defs,h⟩,K=>
  @Option.rec (Nat×Bool) (fun _=>Bool)
   (match gj p.2.op with
   |.pure=>iW p.2.op P (evalArg env) h fun v _=>jF env n p.2.dst v fun fH=>ez P call ops ms rest lg sk ⟨fH,n,defs,h⟩ K
   |.read=>iW p.2.op P (evalArg env) h fun v _=>jF env n p.2.dst v fun fH=>ez P call ops ms rest (⟨p.1,p.2.op,env,v⟩ :: lg) sk ⟨fH,n,defs,h⟩ K
   |.alloc=>iW p.2.op P (evalArg env) h fun v h'=>jF env n p.2.dst v fun fH=>ez P call ops ms rest lg sk ⟨fH,n,defs,h'⟩ K
   |.NO=>
    kG p.2.op P call env defs h fun
     |.ok v lJ h'=>if kT P ms p.1 h' lg then jF env n p.2.dst v fun fH=>ez P call ops ms rest lg sk ⟨fH,n,lJ,h'⟩ K else false
     |.panic _ _=>false)
   (fun g=>match Qv ops g.1 with
    |none=>false
    |some d=>@Bool.rec (fun _=>Bool)
     (az (env d)
      (@Bool.rec (fun _=>Bool) (jF (aa env d (.bool true)) n p.2.dst bK fun fH=>ez P call ops ms rest lg (p.1 :: sk) ⟨fH,n,defs,h⟩ K)
       (match gj p.2.op with
       |.pure=>iW p.2.op P (evalArg (aa env d (.bool true))) h fun v _=>jF (aa env d (.bool true)) n p.2.dst v fun fH=>ez P call ops ms rest lg sk ⟨fH,n,defs,h⟩ K
       |.read=>iW p.2.op P (evalArg (aa env d (.bool true))) h fun v _=>jF (aa env d (.bool true)) n p.2.dst v fun fH=>ez P call ops ms rest (⟨p.1,p.2.op,aa env d (.bool true),v⟩ :: lg) sk ⟨fH,n,defs,h⟩ K
       |.alloc=>iW p.2.op P (evalArg (aa env d (.bool true))) h fun v h'=>jF (aa env d (.bool true)) n p.2.dst v fun fH=>ez P call ops ms rest lg sk ⟨fH,n,defs,h'⟩ K
       |.NO=>
        kG p.2.op P call (aa env d (.bool true)) defs h fun
         |.ok v lJ h'=>if kT P ms p.1 h' lg then jF (aa env d (.bool true)) n p.2.dst v fun fH=>ez P call ops ms rest lg sk ⟨fH,n,lJ,h'⟩ K else false
         |.panic _ _=>false) g.2)
      (@Bool.rec (fun _=>Bool)
       (match gj p.2.op with
       |.pure=>iW p.2.op P (evalArg (aa env d (.bool false))) h fun v _=>jF (aa env d (.bool false)) n p.2.dst v fun fH=>ez P call ops ms rest lg sk ⟨fH,n,defs,h⟩ K
       |.read=>iW p.2.op P (evalArg (aa env d (.bool false))) h fun v _=>jF (aa env d (.bool false)) n p.2.dst v fun fH=>ez P call ops ms rest (⟨p.1,p.2.op,aa env d (.bool false),v⟩ :: lg) sk ⟨fH,n,defs,h⟩ K
       |.alloc=>iW p.2.op P (evalArg (aa env d (.bool false))) h fun v h'=>jF (aa env d (.bool false)) n p.2.dst v fun fH=>ez P call ops ms rest lg sk ⟨fH,n,defs,h'⟩ K
       |.NO=>
        kG p.2.op P call (aa env d (.bool false)) defs h fun
         |.ok v lJ h'=>if kT P ms p.1 h' lg then jF (aa env d (.bool false)) n p.2.dst v fun fH=>ez P call ops ms rest lg sk ⟨fH,n,lJ,h'⟩ K else false
         |.panic _ _=>false)
       (jF (aa env d (.bool false)) n p.2.dst bK fun fH=>ez P call ops ms rest lg (p.1 :: sk) ⟨fH,n,defs,h⟩ K) g.2))
     (match env d with
      |.tuple _=>jF env n p.2.dst bK fun fH=>ez P call ops ms rest lg (p.1 :: sk) ⟨fH,n,defs,h⟩ K
      |_=>false) (Ug g.1 sk)) p.2.guard
def ai4(K:AX->St->Bool):RS->Bool
 |.ok s'=>K .normal s'
 |.panic v s'=>K (.panic v) s'
def rI(P:Program)(call:lI):Code->St->(AX->St->Bool)->Bool
 |.skip,s,K=>K .normal s
 |.region _ ops draw,s,K=>
  @Bool.rec (fun _=>Bool) (lQ P call ops.toList ops.toList 0 [] s (ai4 K))
   (af (LF ops.toList) fun p=>ez P call ops.toList p.ms p.L [] [] s fun s'=>K .normal s') draw
 |.seq a b,s,K=>rI P call a s (cS (aal a b) (rI P call b) K)
 |.cond c a b,s,K=>az (evalArg s.env c) (rI P call a s K) (rI P call b s K)
 |.block id c,s,K=>rI P call c s (aZ id K)
 |.loop c,s,K=>bX (rI P call c) s K
 |.exit id,s,K=>K (.exit id) s
 |.ret,s,K=>K .ret s
 |_,_,_=>false
theorem ye{d:Nat}{v:AV}(h:env d=v):aa env d v=env:=by
 funext t;rw [bg];by_cases e:t=d
 ·rw [if_pos e,e,h]
 ·rw [if_neg e]
theorem IZ{x:AV}{a b:Bool}(h:az x a b=true):(x = .bool true/\a=true)\/(x = .bool false/\b=true):=by
 unfold az at h;split at h
 ·rename_i t;cases t
  ·exact .inr ⟨rfl,h⟩
  ·exact .inl ⟨rfl,h⟩
 ·cases h
section
variable {P:Program} {w0 w:World} {μ μ':Mu} {h h':ag} {s:St} {a:Act}
theorem Fs{ops:List Oper}{o:Oper}{j:Nat}{want:Bool}{d:Tmp}(hg:o.guard=some (j,want))(hd:Qv ops j=some d) :
  j9 ops o env=(match env d with|.bool b=>some (b==want)|.tuple _=>some false|_=>none):=by
 unfold j9 Qv at *;rw [hg];simp only;split at hd
 ·rename_i g hj;rw [hj];simp only [hd];rfl
 ·cases hd
theorem yf{ρ:Operand->AV}{op:Op}{hp:ag}{K1 K2:AV->ag->Bool}(hk:∀ v h',K1 v h'=true->K2 v h'=true)(hh:iW op P ρ hp K1=true):iW op P ρ hp K2=true:=by
 have val:∀ {o:Option AV},mC hp K1 o=true->mC hp K2 o=true:=by
  intro o h;cases o with
  |none=>exact h
  |some a=>exact hk _ _ h
 have both:∀ {o:Option (AV×ag)},yX K1 o=true->yX K2 o=true:=by
  intro o h;cases o with
  |none=>exact h
  |some a=>exact hk _ _ h
 have heap:∀ {o:Option ag},CR K1 o=true->CR K2 o=true:=by
  intro o h;cases o with
  |none=>exact h
  |some a=>exact hk _ _ h
 have bind:∀ {α:Type} {o:Option α} {f g:α->Bool},(∀ a,f a=true->g a=true)->af o f=true->af o g=true:=by
  intro α o f g hfg h;cases o with
  |none=>exact h
  |some a=>exact hfg _ h
 cases op<;>simp only [iW] at hh ⊢<;>try (first|exact hk _ _ hh|exact val hh|exact both hh|exact heap hh|exact bind (fun _ h=>val h) hh|exact bind (fun _ h=>both h) hh|exact bind (fun _ h=>heap h) hh|exact bind (fun _ h=>hk _ _ h) hh|(exfalso;simp at hh;done))
 case buildSlice t n ps=>unfold uz at hh ⊢;exact bind (fun _ h=>bind (fun _ h=>hk _ _ h) h) hh
 case binOp o t x y u=>
  unfold TN at hh ⊢;cases o<;>simp only at hh ⊢<;>first|exact val hh|exact bind (fun _ h=>val h) hh
 case makeFunc fn f c=>
  unfold EZ at hh ⊢;cases fn<;>simp only at hh ⊢<;>first|exact hk _ _ hh|exact hh
 case makeMap t r=>
  unfold IG at hh ⊢;cases r<;>simp only at hh ⊢<;>first|exact hk _ _ hh|exact hh
 case slice t x lo hi mx=>
  unfold J6 at hh ⊢;cases mx<;>simp only at hh ⊢<;>first|exact bind (fun _ h=>val h) hh|exact hh
 case call c=>
  obtain ⟨BN,args,ts⟩:=c;unfold wz at hh ⊢
  cases BN with
  |value f=>exact hh
  |invoke r m=>exact hh
  |builtin b=>
   simp only at hh ⊢;cases b<;>simp only [II,Oe,false_eq_true] at hh ⊢
   case append=>
    unfold BJ at hh ⊢;split at hh
    ·exact bind (fun _ h=>both h) hh
    ·exact hh
   case copy=>
    unfold J7 at hh ⊢;split at hh
    ·exact bind (fun _ h=>both h) hh
    ·exact hh
   case len=>
    unfold Od at hh ⊢;split at hh
    ·exact bind (fun _ h=>val h) hh
    ·exact hh
   case delete=>
    unfold BK at hh ⊢;split at hh
    ·exact bind (fun _ h=>heap h) hh
    ·exact hh
   case min=>
    unfold xU at hh ⊢;split at hh
    ·exact val hh
    ·exact hh
   case max=>
    unfold xU at hh ⊢;split at hh
    ·exact val hh
    ·exact hh
theorem Mi{op:Op}{defs:List su}{hp:ag}{K1 K2:R->Bool}(hk:∀ r,K1 r=true->K2 r=true)(hh:kG op P (aA P) env defs hp K1=true):kG op P (aA P) env defs hp K2=true:=by
 have plain:∀ {op:Op},sI op P (aA P) env defs hp K1=true->sI op P (aA P) env defs hp K2=true:=fun h=>yf (fun _ _ h=>hk _ h) h;cases op<;>simp only [kG] at hh ⊢<;>try exact plain hh
 case call c=>
  obtain ⟨BN,args,ts⟩:=c
  cases BN with
  |builtin b=>exact plain hh
  |invoke r m=>exact plain hh
  |value f=>
   simp only [zy,Ez] at hh ⊢;split at hh
   ·refine aj ((za P).sem hh |>.mono fun o h' h=>?_);cases o<;>exact hk _ h
   ·exact hh
 case defer c=>
  obtain ⟨BN,args,ts⟩:=c
  cases BN with
  |builtin b=>exact hh
  |invoke r m=>exact hh
  |value f=>
   simp only [Ap] at hh ⊢;split at hh
   ·exact hk _ hh
   ·exact hh
 case panic x=>
  simp only [Aq] at hh ⊢;split at hh
  ·exact hk _ hh
  ·exact hh
 case next x b=>
  simp only [J8] at hh ⊢;generalize Ao b (evalArg env x) hp=o at hh ⊢
  cases o with
  |none=>exact hh
  |some L=>
   simp only [af] at hh ⊢
   induction L with
   |nil=>rfl
   |cons p L ih=>
    simp only [nX,and_eq_true] at hh ⊢;exact ⟨hk _ hh.1,ih hh.2⟩
theorem tO{n:Nat}{dst:Option Tmp}{v:AV}{k1 k2:Env->Bool}(hk:∀ e,k1 e=true->k2 e=true)(hh:jF env n dst v k1=true):jF env n dst v k2=true:=by
 cases dst with
 |none=>exact hk _ hh
 |some d=>
  simp only [jF] at hh ⊢
  cases hb:ble (d+1) n with
  |false=>rw [hb] at hh;cases hh
  |true=>rw [hb] at hh;exact hk _ hh
theorem mg{ops:List Oper}{ms:List Nat}{K:St->Bool}:∀ (L:List (Nat×Oper)) (lg:List Read) (sk:List Nat) (s:St),ez P (aA P) ops ms L lg sk s K=true->gG P (aA P) ops ms L lg s K=true
 |[],lg,sk,s,hh=>hh
 |p :: rest,lg,sk,⟨env,n,defs,hp⟩,hh=>by
  have OK:(match gj p.2.op with
   |.pure=>iW p.2.op P (evalArg env) hp fun v _=>jF env n p.2.dst v fun fH=>ez P (aA P) ops ms rest lg sk ⟨fH,n,defs,hp⟩ K
   |.read=>iW p.2.op P (evalArg env) hp fun v _=>jF env n p.2.dst v fun fH=>ez P (aA P) ops ms rest (⟨p.1,p.2.op,env,v⟩ :: lg) sk ⟨fH,n,defs,hp⟩ K
   |.alloc=>iW p.2.op P (evalArg env) hp fun v h'=>jF env n p.2.dst v fun fH=>ez P (aA P) ops ms rest lg sk ⟨fH,n,defs,h'⟩ K
   |.NO=>
    kG p.2.op P (aA P) env defs hp fun
     |.ok v lJ h'=>if kT P ms p.1 h' lg then jF env n p.2.dst v fun fH=>ez P (aA P) ops ms rest lg sk ⟨fH,n,lJ,h'⟩ K else false
     |.panic _ _=>false)=true->(match gj p.2.op with
   |.pure=>iW p.2.op P (evalArg env) hp fun v _=>jF env n p.2.dst v fun fH=>gG P (aA P) ops ms rest lg ⟨fH,n,defs,hp⟩ K
   |.read=>iW p.2.op P (evalArg env) hp fun v _=>jF env n p.2.dst v fun fH=>gG P (aA P) ops ms rest (⟨p.1,p.2.op,env,v⟩ :: lg) ⟨fH,n,defs,hp⟩ K
   |.alloc=>iW p.2.op P (evalArg env) hp fun v h'=>jF env n p.2.dst v fun fH=>gG P (aA P) ops ms rest lg ⟨fH,n,defs,h'⟩ K
   |.NO=>
    kG p.2.op P (aA P) env defs hp fun
     |.ok v lJ h'=>if kT P ms p.1 h' lg then jF env n p.2.dst v fun fH=>gG P (aA P) ops ms rest lg ⟨fH,n,lJ,h'⟩ K else false
     |.panic _ _=>false)=true:=by
   intro h;cases hk:gj p.2.op<;>rw [hk] at h<;>simp only at h ⊢
   ·exact yf (fun v h' h=>tO (fun e h=>mg rest _ _ _ h) h) h
   ·exact yf (fun v h' h=>tO (fun e h=>mg rest _ _ _ h) h) h
   ·exact yf (fun v h' h=>tO (fun e h=>mg rest _ _ _ h) h) h
   ·refine Mi (fun r h=>?_) h
    cases r with
    |ok v lJ h'=>
     simp only at h ⊢;split at h
     ·rename_i hs;rw [if_pos hs];exact tO (fun e h=>mg rest _ _ _ h) h
     ·cases h
    |panic v h'=>cases h
  have Ft:∀ sk',(jF env n p.2.dst bK fun fH=>ez P (aA P) ops ms rest lg sk' ⟨fH,n,defs,hp⟩ K)=true->(jF env n p.2.dst bK fun fH=>gG P (aA P) ops ms rest lg ⟨fH,n,defs,hp⟩ K)=true:=
   fun sk' h=>tO (fun e h=>mg rest _ _ _ h) h
  simp only [ez] at hh;simp only [gG]
  cases hg:p.2.guard with
  |none=>
   rw [hg] at hh;have hw:j9 ops p.2 env=some true:=by unfold j9;rw [hg]
   rw [hw];exact OK hh
  |some g=>
   obtain ⟨j,want⟩:=g;rw [hg] at hh;simp only at hh;split at hh
   ·cases hh
   ·rename_i d hd;have Mj:=Fs (env:=env) hg hd
    cases hm:Ug j sk with
    |true=>
     rw [hm] at hh;simp only at hh;split at hh
     ·rename_i vs hv;rw [hv] at Mj;rw [Mj];exact Ft _ hh
     ·cases hh
    |false=>
     rw [hm] at hh;simp only at hh;rcases IZ hh with ⟨hv,hh⟩|⟨hv,hh⟩
     ·rw [hv] at Mj;rw [ye hv] at hh;rw [Mj]
      cases want with
      |true=>exact OK hh
      |false=>exact Ft _ hh
     ·rw [hv] at Mj;rw [ye hv] at hh;rw [Mj]
      cases want with
      |true=>exact Ft _ hh
      |false=>exact OK hh
theorem Kn{call:lI}(hc:g9 P call){ops:Array Oper}{K:RS->Bool}{Q:Exit->Act->World->Prop}:∀ (l:List Oper) (i:Nat) (sk:List Nat) (s:St) (a:Act) (w:World) (μ:Mu),(∀ j o,l[j]?=some o->ops[i+j]?=some o) ->
  SR w0 μ s a w->(hl:BR w0 μ s.h w K Q)->lQ P call ops.toList l i sk s K=true->wpOps P ops Q (range' i l.length) a w
 |[],i,sk,s,a,w,μ,hi,hs,hl,h=>by
  simp only [length_nil,range'_zero,wpOps];exact hl.ok _ _ _ _ h hs (Ext.refl _ _ _)
 |o :: rest,i,sk,s,a,w,μ,hi,hs,hl,h=>by
  have hio:ops[i]?=some o:=by simpa using hi 0 o rfl
  obtain ⟨env,n,defs,hp⟩:=s;simp only [length_cons,range'_succ,wpOps,hio]
  have tj:∀ j o',rest[j]?=some o'->ops[i+1+j]?=some o':=fun j o' hj=>by
   have:=hi (j+1) o' (by simpa using hj)
   rwa [show i+1+j=i+(j+1) by omega]
  have OK:j9 ops.toList o env=some true->(kG o.op P call env defs hp fun
       |.ok v defs h=>jF env n o.dst v fun env=>lQ P call ops.toList rest (i+1) sk ⟨env,n,defs,h⟩ K
       |.panic v h=>K (.panic v ⟨env,n,defs,h⟩))=true ->
    (if Region.wanted o (yielded ops a.tmps) then o.wp P a w (wpOps P ops Q (range' (i+1) rest.length)) Q\/(o.asks P a w/\LetsOut Q) else wpOps P ops Q (range' (i+1) rest.length) (a.put o.dst undef) w):=by
   intro hw hh;rw [nk hs.env hw,if_pos rfl];refine .inl (EG hs hc ⟨fun v lJ h' a' w' μ' hK jc hx=>?_,fun v vc h' w' μ' hK hv jc hx=>?_⟩ hh)
   ·exact Kn hc rest (i+1) sk _ a' w' μ' tj jc (hl.after hx) (mZ hK)
   ·exact hl.panic v vc _ a w' μ' hK hv jc hx
  have Ft:j9 ops.toList o env=some false->(jF env n o.dst bK fun env=>lQ P call ops.toList rest (i+1) (i :: sk) ⟨env,n,defs,hp⟩ K)=true ->
    (if Region.wanted o (yielded ops a.tmps) then o.wp P a w (wpOps P ops Q (range' (i+1) rest.length)) Q\/(o.asks P a w/\LetsOut Q) else wpOps P ops Q (range' (i+1) rest.length) (a.put o.dst undef) w):=by
   intro hw hh;rw [nk hs.env hw];simp only [false_eq_true,if_false];have jc:=hs.left o.dst (h':=hp) VR.bK hs.iP (Mu.le.refl μ);exact Kn hc rest (i+1) (i :: sk) ⟨oC env n o.dst bK,n,defs,hp⟩ _ w μ tj jc hl (mZ hh)
  simp only [lQ] at h;split at h
  ·rename_i hg;exact OK (by unfold j9;rw [hg]) h
  ·rename_i j want hg;split at h
   ·cases h
   ·rename_i d hd;have Mj:=Fs (env:=env) hg hd
    cases hm:Ug j sk with
    |true=>
     rw [hm] at h;simp only at h;split at h
     ·rename_i vs hv;rw [hv] at Mj;exact Ft Mj h
     ·cases h
    |false=>
     rw [hm] at h;simp only at h;rcases IZ h with ⟨hv,h⟩|⟨hv,h⟩
     ·rw [hv] at Mj;rw [ye hv] at h
      cases want with
      |true=>exact OK Mj h
      |false=>exact Ft Mj h
     ·rw [hv] at Mj;rw [ye hv] at h
      cases want with
      |true=>exact Ft Mj h
      |false=>exact OK Mj h
theorem Uh(hm:P.follows .mixedOrders=true):∀ (c:Code) (s:St) (a:Act) (w:World) (μ:Mu) (K:AX->St->Bool) (Q:Exit->Act->World->Prop),SR w0 μ s a w ->
  zI w0 μ s.h w K Q->rI P (aA P) c s K=true->c.wp P Q a w:=by
 have hc:=za P;intro c
 induction c with
 |skip=>intro s a w μ K Q hs hl h;exact wp_skip (hl _ _ _ _ _ _ h .normal hs (Ext.refl _ _ _))
 |region id ops draw=>
  intro s a w μ K Q hs hl h;simp only [rI] at h
  cases draw with
  |true=>
   simp only at h;obtain ⟨Mc,hp,h⟩:=gH h;exact Qs hm hc hp hs (fun s' a' w' μ' hK jc hx=>hl _ _ _ _ _ _ hK .normal jc hx) (mg _ _ _ _ h)
  |false=>
   simp only at h;refine wp_region ?_;have:=Kn (Q:=Q) hc ops.toList 0 [] s a w μ (fun j o hj=>by rw [Nat.zero_add];simpa using hj) hs ⟨fun s' a' w' μ' hK jc hx=>hl _ _ _ _ _ _ hK .normal jc hx,fun v vc s' a' w' μ' hK hv jc hx=>hl _ _ _ _ _ _ hK (.panic v vc hv) jc hx⟩ h;rw [range_eq_range'];simpa using this
 |seq x y ihx ihy=>
  intro s a w μ K Q hs hl h;simp only [rI] at h;refine wp_seq (ihx s a w μ _ _ hs (fun e ex s' a' w' μ' hK hq jc hx=>?_) h)
  cases hq with
  |normal=>exact ihy s' a' w' μ' K Q jc (hl.after hx) (by rw [Mh] at hK;exact hK)
  |exit id=>exact hl _ _ _ _ _ _ hK (.exit id) jc hx
  |ret=>exact hl _ _ _ _ _ _ hK .ret jc hx
  |panic v vc hv=>exact hl _ _ _ _ _ _ hK (.panic v vc hv) jc hx
 |cond c x y ihx ihy=>
  intro s a w μ K Q hs hl h;simp only [rI,az] at h;have AI:=hs.eval c;split at h
  ·rename_i t e;rw [e] at AI
   cases t with
   |true=>exact wp_cond_true AI.jO (ihx s a w μ K Q hs hl h)
   |false=>exact wp_cond_false AI.jO (ihy s a w μ K Q hs hl h)
  ·cases h
 |block id c ih=>
  intro s a w μ K Q hs hl h;simp only [rI] at h;refine wp_block (ih s a w μ _ _ hs (fun e ex s' a' w' μ' hK hq jc hx=>?_) h)
  cases hq with
  |normal=>exact hl _ _ _ _ _ _ hK .normal jc hx
  |exit Ro=>
   simp only [Exit.inBlock];simp only [aZ] at hK;by_cases e:Ro=id
   ·subst e;rw [AJ] at hK;rw [if_pos rfl];exact hl _ _ _ _ _ _ hK .normal jc hx
   ·rw [if_neg e]
    have hb:beq Ro id=false:=by
     cases hq:beq Ro id with
     |false=>rfl
     |true=>exact absurd (eq_of_beq_eq_true hq) e
    rw [hb] at hK;exact hl _ _ _ _ _ _ hK (.exit Ro) jc hx
  |ret=>exact hl _ _ _ _ _ _ hK .ret jc hx
  |panic v vc hv=>exact hl _ _ _ _ _ _ hK (.panic v vc hv) jc hx
 |loop c ih=>
  intro s a w μ K Q hs hl h;simp only [rI,bX] at h;obtain ⟨I,⟨n0,hI0⟩,ej⟩:=cO.1 h;refine wp_loop_rounds (n0+1) ?_
  have key:∀ (N n:Nat) (s:St) (a:Act) (w:World) (μ:Mu),SR w0 μ s a w->zI w0 μ s.h w K Q->I n s->n<N->Code.rounds P c Q N a w:=by
   intro N
   induction N with
   |zero=>intro n s a w μ hs hl hi hn;omega
   |succ N ihn=>
    intro n s a w μ hs hl hi hn;rw [rounds_succ];refine ih s a w μ _ _ hs (fun e ex s' a' w' μ' hK hq jc hx=>?_) (ej n s hi)
    cases hq with
    |normal=>
     obtain ⟨m,hm1,HD⟩:=cO.1 hK;exact ihn m s' a' w' μ' jc (hl.after hx) HD (by omega)
    |exit id=>exact hl _ _ _ _ _ _ hK (.exit id) jc hx
    |ret=>exact hl _ _ _ _ _ _ hK .ret jc hx
    |panic v vc hv=>exact hl _ _ _ _ _ _ hK (.panic v vc hv) jc hx
  exact key (n0+1) n0 s a w μ hs hl hI0 (by omega)
 |exit id=>intro s a w μ K Q hs hl h;exact wp_exit (hl _ _ _ _ _ _ h (.exit id) hs (Ext.refl _ _ _))
 |ret=>intro s a w μ K Q hs hl h;exact wp_ret (hl _ _ _ _ _ _ h .ret hs (Ext.refl _ _ _))
 |_=>intros;rename_i h;simp [rI] at h
def gm:tg:=fun _=>none
theorem cm(P:Program):Fq P gm:=fun f g h=>by cases h
theorem cB(hm:P.follows .mixedOrders=true){D:tg}(hD:Fq P D){fn:Func}{c:Code}(Tr:P.funcs[f]?=some fn)(hb:fn.body=some c)(Ui:fn.name≠ "runtime.NumGoroutine")
  (hlen:args.length<=fn.ntmps)
  (hh:rI P (aA P) c ⟨aI args,fn.ntmps,[],h⟩ (bp P D fn.results.toList K)=true):Sem P f args h K:=by
 refine ⟨⟨fn,c,Tr,hb,Ui⟩,fun w0 μ w vs hg hv=>?_⟩;refine calls_of_wp_defers Tr hb ?_;refine Uh (w0:=w0) hm c ⟨aI args,fn.ntmps,[],h⟩ _ w μ _ _ ⟨BS hv hlen,.nil,hg⟩ (fun e ex s' a' w' μ' hK hq jc hx=>?_) hh
 cases hq with
 |normal=>exact oT hD _ _ none none s' a' w' μ' jc.env jc.defs jc.iP .none hx hK
 |ret=>exact oT hD _ _ none none s' a' w' μ' jc.env jc.defs jc.iP .none hx hK
 |exit id=>cases hK
 |panic v vc hv=>exact oT hD _ _ (some v) (some vc) s' a' w' μ' jc.env jc.defs jc.iP (.some hv) hx hK
end
end
end Go.AM
namespace Go.AM
open List Nat Bool Option
open Go Go.RowKit
noncomputable section
variable {old:Bool} {h:ag}
def AV.scalar:AV->Bool
 |.undef|.bool _|.int _ _|.str _|.gC|.au|.kX|.qh|.tc=>true
 |_=>false
mutual
def AV.pure:AV->Bool
 |.ptr _ _|.slice _ _ _ _|.map _=>false
 |.dI cs _=>AV.cN cs
 |.ay cs _ _ _=>AV.cN cs
 |.func _ a b=>AV.cN a&&AV.cN b
 |.iface _ v=>AV.pure v
 |.agg cs=>AV.cN cs
 |.tuple cs=>AV.cN cs
 |_=>true
def AV.cN:List AV->Bool
 |[]=>true
 |a :: as=>AV.pure a&&AV.cN as
end
theorem AV.nI:∀ {l:List AV},AV.cN l=true->∀ {i:Nat} {x:AV},l[i]?=some x->x.pure=true
 |a :: l,h,0,x,e=>by simp [AV.cN] at h;simp at e;subst e;exact h.1
 |a :: l,h,i+1,x,e=>by simp [AV.cN] at h;exact AV.nI h.2 (by simpa using e)
 |[],h,i,x,e=>by simp at e
theorem AV.Ko{l m:List AV}(h:AV.cN l=true)(k:AV.cN m=true):AV.cN (l++m)=true:=by
 induction l with
 |nil=>exact k
 |cons a l ih=>simp only [AV.cN,and_eq_true,cons_append] at h ⊢;exact ⟨h.1,ih h.2⟩
inductive Fz (old:Bool) (h:ag):AV->AV->Prop where
 |scalar (x:AV) (hx:x.scalar=true):Fz old h x x
 |dI (cs rD:List AV) (off:Nat) (ho:old=true) (hl:cs.length=rD.length) (hr:∀ (i:Nat) (x y:AV),cs[i]?=some x->rD[i]?=some y->Fz old h x y):Fz old h (.dI cs off) (.dI rD off)
 |ay (cs rD:List AV) (off len sz:Nat) (ho:old=true) (hl:cs.length=rD.length) (hr:∀ (i:Nat) (x y:AV),cs[i]?=some x->rD[i]?=some y->Fz old h x y):Fz old h (.ay cs off len sz) (.ay rD off len sz)
 |ptr (b off:Nat) (cs rD:List AV) (hb:h.get b=some (.cells cs)) (hl:cs.length=rD.length) (hr:∀ (i:Nat) (x y:AV),cs[i]?=some x->rD[i]?=some y->Fz old h x y):Fz old h (.ptr b off) (.dI rD off)
 |slice (b off len sz:Nat) (cs rD:List AV) (hb:h.get b=some (.cells cs)) (hl:cs.length=rD.length) (hr:∀ (i:Nat) (x y:AV),cs[i]?=some x->rD[i]?=some y->Fz old h x y):Fz old h (.slice b off len sz) (.ay rD off len sz)
 |func (f:FuncId) (xs ys xs' ys':List AV) (h1:xs.length=xs'.length) (h2:ys.length=ys'.length) (r1:∀ (i:Nat) (x y:AV),xs[i]?=some x->xs'[i]?=some y->Fz old h x y)
   (r2:∀ (i:Nat) (x y:AV),ys[i]?=some x->ys'[i]?=some y->Fz old h x y):Fz old h (.func f xs ys) (.func f xs' ys')
 |iface (t:TypeId) (x y:AV) (hr:Fz old h x y):Fz old h (.iface t x) (.iface t y)
 |agg (cs rD:List AV) (hl:cs.length=rD.length) (hr:∀ (i:Nat) (x y:AV),cs[i]?=some x->rD[i]?=some y->Fz old h x y):Fz old h (.agg cs) (.agg rD)
 |tuple (cs rD:List AV) (hl:cs.length=rD.length) (hr:∀ (i:Nat) (x y:AV),cs[i]?=some x->rD[i]?=some y->Fz old h x y):Fz old h (.tuple cs) (.tuple rD)
structure kD (old:Bool) (h:ag) (cs rD:List AV):Prop where
 len:cs.length=rD.length
 rel:∀ (i:Nat) (x y:AV),cs[i]?=some x->rD[i]?=some y->Fz old h x y
theorem kD.nil:kD old h [] []:=⟨rfl,by simp⟩
theorem kD.cons{x y:AV}{xs ys:List AV}(h1:Fz old h x y)(h2:kD old h xs ys):kD old h (x :: xs) (y :: ys):=
 ⟨by simp [h2.len],fun i u v a b=>by
  cases i with
  |zero=>simp at a b;subst a;subst b;exact h1
  |succ i=>simp at a b;exact h2.rel i u v a b⟩
theorem kD.append{xs ys us vs:List AV}(h1:kD old h xs us)(h2:kD old h ys vs):kD old h (xs++ys) (us++vs):=by
 induction xs generalizing us with
 |nil=>cases us with
  |nil=>exact h2
  |cons u us=>exact absurd h1.len (by simp)
 |cons x xs ih=>cases us with
  |nil=>exact absurd h1.len (by simp)
  |cons u us=>exact .cons (h1.rel 0 x u rfl rfl) (ih ⟨by simpa using h1.len,fun i a b p q=>h1.rel (i+1) a b (by simpa using p) (by simpa using q)⟩)
mutual
theorem Fz.dP{h:ag}:∀ {x:AV},x.pure=true->Fz true h x x
 |.undef,_=>.scalar _ rfl
 |.bool _,_=>.scalar _ rfl
 |.int _ _,_=>.scalar _ rfl
 |.str _,_=>.scalar _ rfl
 |.gC,_=>.scalar _ rfl
 |.au,_=>.scalar _ rfl
 |.kX,_=>.scalar _ rfl
 |.qh,_=>.scalar _ rfl
 |.tc,_=>.scalar _ rfl
 |.dI cs off,hp=>.dI cs cs off rfl rfl (kD.dP hp).rel
 |.ay cs off len sz,hp=>.ay cs cs off len sz rfl rfl (kD.dP hp).rel
 |.func f a b,hp=>by
  simp only [AV.pure,and_eq_true] at hp;exact .func f a b a b rfl rfl (kD.dP hp.1).rel (kD.dP hp.2).rel
 |.iface t x,hp=>.iface t x x (Fz.dP hp)
 |.agg cs,hp=>.agg cs cs rfl (kD.dP hp).rel
 |.tuple cs,hp=>.tuple cs cs rfl (kD.dP hp).rel
 |.ptr _ _,hp=>by cases hp
 |.slice _ _ _ _,hp=>by cases hp
 |.map _,hp=>by cases hp
theorem kD.dP{h:ag}:∀ {l:List AV},AV.cN l=true->kD true h l l
 |[],_=>.nil
 |a :: l,hp=>by
  simp only [AV.cN,and_eq_true] at hp;exact .cons (Fz.dP hp.1) (kD.dP hp.2)
end
section
variable {P:Program} {w0 w w':World} {μ μ':Mu} {h h':ag}
def Mu.NS(μ:Mu)(w:World)(c:Nat):Option (List Value):=
 match μ.z c with
 |some vs=>some vs
 |none=>@ite _ (∃ b k,μ b=some k/\k.c=c) (Classical.propDecidable _) (match w.heap[c]? with|some (.cells arr _ _)=>some arr.toList|_=>none) none
theorem Mu.AN{c:Nat}{vs:List Value}(hz:μ.z c=some vs):μ.NS w c=some vs:=by unfold Mu.NS;rw [hz]
theorem Mu.WS{b:Nat}{k:LL}(hb:μ b=some k)(hz:μ.z k.c=none){arr:Array Value}{e:TypeId}{fr:Nat×Nat}(hc:w.heap[k.c]?=some (.cells arr e fr)):μ.NS w k.c=some arr.toList:=by
 unfold Mu.NS;rw [hz];simp only;rw [if_pos ⟨b,k,hb,rfl⟩,hc]
theorem Mu.Qw{c:Nat}{vs:List Value}(h:μ.NS w c=some vs):μ.z c=some vs\/((∃ b k,μ b=some k/\k.c=c)/\∃ arr e fr,w.heap[c]?=some (.cells arr e fr)/\arr.toList=vs):=by
 unfold Mu.NS at h;split at h
 ·rename_i vs' hz;cases h;exact .inl hz
 ·split at h
  ·rename_i hex;split at h
   ·rename_i arr e fr hc;cases h;exact .inr ⟨hex,arr,e,fr,hc,rfl⟩
   ·cases h
  ·cases h
def Mu.Kp(μ μ':Mu)(w w':World):Mu:=⟨μ.m,fun c=>@ite _ ((∃ vs,μ.z c=some vs)\/w.heap.size<=c) (Classical.propDecidable _) (μ'.NS w' c) none⟩
theorem I0(Qr:Good w0 μ' h' w'){ν:Mu}(aaE:∀ b k,μ' b=some k->∀ vs,μ'.NS w' k.c=some vs->ν.z k.c=some vs)(hold:old=true->∀ c vs,μ'.z c=some vs->ν.z c=some vs){x y:AV}(hf:Fz old h' x y):∀ v,VR w0 μ' x v->VR w0 ν y v:=by
 have WT:∀ b k cs,μ' b=some k->h'.get b=some (.cells cs)->∃ vs:List Value,vs.length=cs.length/\(ν.z k.c).isSome=true/\(∀ (i:Nat) (v:Value),vs[i]?=some v->ν.cell k.c (k.base+i)=some v) /\
   ∀ (i:Nat) (x:AV) (v:Value),cs[i]?=some x->vs[i]?=some v->VR w0 μ' x v:=by
  intro b k cs hb ho;obtain ⟨arr,e,fr,h1,h2,h3,h4,h5⟩:=Qr.obj b k _ hb ho;have hz:ν.z k.c=some arr.toList:=aaE b k hb _ (Mu.WS hb (Qr.apart b k hb) h1);refine ⟨(arr.toList.drop k.base).take cs.length,by simp;omega,by rw [hz];rfl,fun i v hi=>?_,fun i x v hx hi=>?_⟩
  ·rw [getElem?_take] at hi;split at hi
   ·rw [getElem?_drop] at hi;unfold Mu.cell;rw [hz];exact hi
   ·cases hi
  ·obtain ⟨v',RK,hv2⟩:=h5 i x hx;rw [getElem?_take] at hi;split at hi
   ·rw [getElem?_drop,Array.getElem?_toList,RK] at hi;cases hi;exact hv2
   ·cases hi
 have rows:∀ {cs rD:List AV} {vs:List Value},cs.length=rD.length->cs.length=vs.length->(∀ (i:Nat) (x y:AV),cs[i]?=some x->rD[i]?=some y->∀ v,VR w0 μ' x v->VR w0 ν y v) ->
   (∀ (i:Nat) (x:AV) (v:Value),cs[i]?=some x->vs[i]?=some v->VR w0 μ' x v)->∀ (i:Nat) (y:AV) (v:Value),rD[i]?=some y->vs[i]?=some v->VR w0 ν y v:=by
  intro cs rD vs hl RM ih hr i y v hy hv;have hi:i<rD.length:=(oB.1 hy).1;have hx:cs[i]?=some (cs[i]'(by omega)):=ec (by omega);exact ih i _ y hx hy v (hr i _ v hx hv)
 induction hf with
 |scalar x hx=>
  intro v hv;cases hv<;>simp only [AV.scalar,false_eq_true,reduceCtorEq] at hx<;>constructor
 |dI cs rD off ho hl hr ih=>
  intro v hv;cases hv;rename_i g o vs hg hv DG yY;refine .dI rD off g o vs ?_ (by omega) (fun i v hi=>?_) (rows hl DG ih yY)
  ·trivial
  ·have:=hv i v hi;unfold Mu.cell at this ⊢;obtain ⟨zs,hz,NT⟩:=bind_eq_some_iff.1 this;rw [hold ho _ _ hz];exact NT
 |ay cs rD off len sz ho hl hr ih=>
  intro v hv;cases hv;rename_i cap a g o vs hg hv DG yY ha hc;refine .ay rD off len sz cap a g o vs ?_ (by omega) (fun i v hi=>?_) (rows hl DG ih yY) hc ha
  ·trivial
  ·have:=hv i v hi;unfold Mu.cell at this ⊢;obtain ⟨zs,hz,NT⟩:=bind_eq_some_iff.1 this;rw [hold ho _ _ hz];exact NT
 |ptr b off cs rD hb hl hr ih=>
  intro v hv;cases hv;rename_i k hk;obtain ⟨vs,q1,q2,q3,q4⟩:=WT b k cs hk hb;exact .dI rD off k.c k.base vs trivial (by omega) q3 (rows hl (by omega) ih q4)
 |slice b off len sz cs rD hb hl hr ih=>
  intro v hv;cases hv;rename_i cap a k hk hc ha;obtain ⟨vs,q1,q2,q3,q4⟩:=WT b k cs hk hb;exact .ay rD off len sz cap a k.c k.base vs trivial (by omega) q3 (rows hl (by omega) ih q4) hc (fun h0=>(ha h0).1)
 |func f xs ys xs' ys' h1 h2 r1 r2 ih1 ih2=>
  intro v hv;cases hv;rename_i us vs g1 q1 g2 q2;exact .func f xs' ys' us vs (by omega) (by omega) (rows h1 g1 ih1 q1) (rows h2 g2 ih2 q2)
 |iface t x y hr ih=>
  intro v hv;cases hv;rename_i v hv;exact .iface t y v (ih v hv)
 |agg cs rD hl hr ih=>
  intro v hv;cases hv;rename_i vs DG yY;exact .agg rD vs (by omega) (rows hl DG ih yY)
 |tuple cs rD hl hr ih=>
  intro v hv;cases hv;rename_i vs DG yY;exact .tuple rD vs (by omega) (rows hl DG ih yY)
theorem I1{ν:Mu}(hν:ν.m=fun _=>none)(hg:Good w0 μ h w)(Qr:Good w0 μ' h' w')(hx:Ext ν ag.empty w μ' h' w')(hz:∀ c vs,μ.z c=some vs->ν.z c=some vs) :
  Good w0 (μ.Kp μ' w w') h w'/\Ext μ h w (μ.Kp μ' w w') h w':=by
 have hf:∀ k,k<w.heap.size->w'.heap[k]?=w.heap[k]?:=fun k hk=>hx.frame k hk (by simp [hν])
 have tJ:∀ c vs,(μ.Kp μ' w w').z c=some vs->μ.z c=some vs\/w.heap.size<=c:=by
  intro c vs hc;have AO:@ite _ ((∃ vs,μ.z c=some vs)\/w.heap.size<=c) (Classical.propDecidable _) (μ'.NS w' c) none=some vs:=hc;split at AO
  ·rename_i hor;rcases hor with ⟨vs',hv⟩|Wf
   ·rw [Mu.AN (hx.mono.Am _ _ (hz _ _ hv))] at AO;cases AO;exact .inl hv
   ·exact .inr Wf
  ·cases AO
 have Qx:∀ c vs,μ.z c=some vs->(μ.Kp μ' w w').z c=some vs:=by
  intro c vs hv;show @ite _ ((∃ vs,μ.z c=some vs)\/w.heap.size<=c) (Classical.propDecidable _) (μ'.NS w' c) none=some vs;rw [if_pos (.inl ⟨vs,hv⟩)];exact Mu.AN (hx.mono.Am _ _ (hz _ _ hv))
 have hle:μ.le (μ.Kp μ' w w'):=⟨fun _ _ h=>h,Qx⟩
 refine ⟨⟨Qr.below,hg.clean,hg.fresh,fun b k hb=>?_,fun c vs hc=>?_,fun b k hb=>?_,fun b k o hb ho=>?_,hg.inj⟩,⟨hle,fun k hk _=>hf k hk,fun _ _ h=>.inl h,hx.size,dK _,fun _ _ _=>rfl,fun _ _ h=>.inl h,tJ⟩⟩
 ·have:=hg.own b k hb;have:=hx.size;omega
 ·have AO:@ite _ ((∃ vs,μ.z c=some vs)\/w.heap.size<=c) (Classical.propDecidable _) (μ'.NS w' c) none=some vs:=hc;split at AO
  ·rcases Mu.Qw AO with h1|⟨_,h1⟩
   ·exact Qr.Am c vs h1
   ·exact h1
  ·cases AO
 ·cases hq:(μ.Kp μ' w w').z k.c with
  |none=>rfl
  |some vs=>
   have fY:μ b=some k:=hb;rcases tJ _ _ hq with h1|h1
   ·rw [hg.apart b k fY] at h1;cases h1
   ·have:=(hg.own b k fY).2;omega
 ·have fY:μ b=some k:=hb;rw [hf _ (hg.own b k fY).2];exact sw.mono hle (hg.obj b k o fY ho)
theorem VR.WU(hz:∀ c vs,μ.z c=some vs->μ'.z c=some vs){x:AV}{v:Value}(hv:VR w0 μ x v)(hp:x.pure=true):VR w0 μ' x v:=by
 have Qy:∀ g,(μ.z g).isSome=true->(μ'.z g).isSome=true:=fun g hg=>by
  obtain ⟨zs,h1⟩:=isSome_iff_exists.1 hg;rw [hz _ _ h1];rfl
 have Fu:∀ g i v,μ.cell g i=some v->μ'.cell g i=some v:=fun g i v hc=>by
  unfold Mu.cell at hc ⊢;obtain ⟨zs,h1,h2⟩:=bind_eq_some_iff.1 hc;rw [hz _ _ h1];exact h2
 induction hv with
 |undef v=>exact .undef v
 |bool b=>exact .bool b
 |int k n=>exact .int k n
 |str s=>exact .str s
 |gC=>exact .gC
 |ptr b off k hk=>cases hp
 |dI cs off g o vs hg hl hv hr ih=>exact .dI cs off g o vs trivial hl (fun i v h=>Fu _ _ _ (hv i v h)) (fun i x v hx hv=>ih i x v hx hv (AV.nI hp hx))
 |au=>exact .au
 |slice b off len sz cap a k hk hc ha=>cases hp
 |ay cs off len sz cap a g o vs hg hl hv hr hc ha ih=>exact .ay cs off len sz cap a g o vs trivial hl (fun i v h=>Fu _ _ _ (hv i v h)) (fun i x v hx hv=>ih i x v hx hv (AV.nI hp hx)) hc ha
 |kX=>exact .kX
 |map b k hk=>cases hp
 |qh=>exact .qh
 |func f xs ys us vs h1 h2 r1 r2 ih1 ih2=>
  simp only [AV.pure,and_eq_true] at hp;exact .func f xs ys us vs h1 h2 (fun i x v hx hv=>ih1 i x v hx hv (AV.nI hp.1 hx)) (fun i x v hx hv=>ih2 i x v hx hv (AV.nI hp.2 hx))
 |tc=>exact .tc
 |iface t x v h ih=>exact .iface t x v (ih hp)
 |agg cs vs hl hr ih=>exact .agg cs vs hl (fun i x v hx hv=>ih i x v hx hv (AV.nI hp hx))
 |tuple cs vs hl hr ih=>exact .tuple cs vs hl (fun i x v hx hv=>ih i x v hx hv (AV.nI hp hx))
theorem Qz{ν:Mu}(hν:ν.m=fun _=>none)(Qr:Good w0 μ' h' w')(hx:Ext ν ag.empty w μ' h' w')(hz:old=true->∀ c vs,ν.z c=some vs->μ.z c=some vs){x y:AV}(hf:Fz old h' x y){v:Value}(hv:VR w0 μ' x v) :
  VR w0 (μ.Kp μ' w w') y v:=by
 have key:∀ c vs,μ'.NS w' c=some vs->((∃ vs,μ.z c=some vs)\/w.heap.size<=c)->(μ.Kp μ' w w').z c=some vs:=by
  intro c vs hi hor;show @ite _ ((∃ vs,μ.z c=some vs)\/w.heap.size<=c) (Classical.propDecidable _) (μ'.NS w' c) none=some vs;rw [if_pos hor];exact hi
 refine I0 Qr (ν:=μ.Kp μ' w w') (fun b k hb vs hi=>key _ _ hi (.inr ?_)) (fun ho c vs hc=>key _ _ (Mu.AN hc) ?_) hf v hv
 ·rcases hx.new b k hb with h1|h1|⟨b0,k0,h1,_⟩
  ·rw [hν] at h1;cases h1
  ·exact h1
  ·rw [hν] at h1;cases h1
 ·rcases hx.DF c vs hc with h1|h1
  ·exact .inl ⟨vs,hz ho _ _ h1⟩
  ·exact .inr h1
theorem Sem.frozen{f:FuncId}{args:List AV}{K0 K:Out->ag->Bool}(hs:Sem P f args ag.empty K0)(hp:AV.cN args=true)
  (hk:∀ o h',K0 o h'=true->∃ v r,o = .ret v/\Fz true h' v r/\K (.ret r) h=true):Sem P f args h K:=by
 refine ⟨hs.1,fun w0 μ w vs hg hv=>?_⟩;have BG:fO w0 μ.bare args vs:=⟨hv.len,fun i x v hx NP=>VR.WU (μ:=μ) (μ':=μ.bare) (fun _ _ h=>h) (hv.rel i x v hx NP) (AV.nI hp hx)⟩
 refine (hs.2 w0 μ.bare w vs hg.nothing BG).mono fun e w' hr=>?_
 cases e with
 |returned vc=>
  obtain ⟨v,h',μ',k1,k2,k3,k4⟩:=hr;obtain ⟨v',r,he,hf,hK⟩:=hk _ _ k1;cases he;obtain ⟨g1,g2⟩:=I1 rfl hg k3 k4 (fun _ _ h=>h);exact ⟨r,h,_,hK,Qz (μ:=μ) rfl k3 k4 (fun _ _ _ h=>h) hf k2,g1,g2⟩
 |panicked c=>
  obtain ⟨v,vc,h',μ',k1,_⟩:=hr;obtain ⟨v',r,he,_⟩:=hk _ _ k1;cases he
 |outgrown=>exact hr.elim
theorem Good.ai6(hg:Good w0 μ h w):Good w0 ⟨fun _=>none,μ.NS w⟩ ag.empty w:=
 ⟨hg.below,ag.wK,by simp,by simp,fun c vs hc=>by
  rcases Mu.Qw hc with h1|⟨_,h1⟩
  ·exact hg.Am c vs h1
  ·exact h1,by simp,by simp,by simp⟩
theorem Sem.WV{f:FuncId}{args zb:List AV}{K0 K:Out->ag->Bool}(hs:Sem P f zb ag.empty K0)(hp:kD true h args zb)
  (hk:∀ o h',K0 o h'=true->∃ v r,o = .ret v/\Fz false h' v r/\K (.ret r) h=true):Sem P f args h K:=by
 refine ⟨hs.1,fun w0 μ w vs hg hv=>?_⟩
 have BG:fO w0 ⟨fun _=>none,μ.NS w⟩ zb vs:=by
  refine ⟨by rw [<- hp.len];exact hv.len,fun i y v hy NP=>?_⟩;have hi:i<zb.length:=(oB.1 hy).1;have hx:args[i]?=some (args[i]'(by rw [hp.len];exact hi)):=ec _;exact I0 hg (ν:=⟨fun _=>none,μ.NS w⟩) (fun _ _ _ _ h=>h) (fun _ c vs h=>Mu.AN h) (hp.rel i _ y hx hy) v (hv.rel i _ v hx NP)
 refine (hs.2 w0 _ w vs hg.ai6 BG).mono fun e w' hr=>?_
 cases e with
 |returned vc=>
  obtain ⟨v,h',μ',k1,k2,k3,k4⟩:=hr;obtain ⟨v',r,he,hf,hK⟩:=hk _ _ k1;cases he;obtain ⟨g1,g2⟩:=I1 rfl hg k3 k4 (fun c vs h=>Mu.AN h);exact ⟨r,h,_,hK,Qz (μ:=μ) rfl k3 k4 (fun h=>by cases h) hf k2,g1,g2⟩
 |panicked c=>
  obtain ⟨v,vc,h',μ',k1,_⟩:=hr;obtain ⟨v',r,he,_⟩:=hk _ _ k1;cases he
 |outgrown=>exact hr.elim
end
end
end Go.AM
namespace Go.AM
open List Nat Bool Option
open Go Go.RowKit
noncomputable section
def BT(f:AV->Option AV):List AV->Option (List AV)
 |[]=>some []
 |x :: xs=>match f x with
  |none=>none
  |some y=>match BT f xs with
   |none=>none
   |some ys=>some (y :: ys)
def mh(old:Bool)(h:ag):Nat->AV->Option AV
 |0,_=>none
 |n+1,x=>match x with
  |.ptr b off=>(match h.get b with
   |some (.cells cs)=>(match BT (mh old h n) cs with|some ds=>some (.dI ds off)|none=>none)
   |_=>none)
  |.slice b off len sz=>(match h.get b with
   |some (.cells cs)=>(match BT (mh old h n) cs with|some ds=>some (.ay ds off len sz)|none=>none)
   |_=>none)
  |.dI cs off=>@Bool.rec (fun _=>Option AV) none (match BT (mh old h n) cs with|some ds=>some (.dI ds off)|none=>none) old
  |.ay cs off len sz=>@Bool.rec (fun _=>Option AV) none (match BT (mh old h n) cs with|some ds=>some (.ay ds off len sz)|none=>none) old
  |.func f a b=>(match BT (mh old h n) a with
   |none=>none
   |some a'=>match BT (mh old h n) b with
    |none=>none
    |some b'=>some (.func f a' b'))
  |.iface t v=>(match mh old h n v with|some w=>some (.iface t w)|none=>none)
  |.agg cs=>(match BT (mh old h n) cs with|some ds=>some (.agg ds)|none=>none)
  |.tuple cs=>(match BT (mh old h n) cs with|some ds=>some (.tuple ds)|none=>none)
  |.map _=>none
  |x=>some x
theorem pF{old:Bool}{h:ag}{f:AV->Option AV}(hf:∀ x y,f x=some y->Fz old h x y):∀ {xs ys:List AV},BT f xs=some ys->kD old h xs ys
 |[],ys,e=>by simp only [BT,Option.some.injEq] at e;subst e;exact .nil
 |x :: xs,ys,e=>by
  simp only [BT] at e;split at e
  ·cases e
  ·rename_i y hy;split at e
   ·cases e
   ·rename_i ys' hys;cases e;exact .cons (hf _ _ hy) (pF hf hys)
theorem uE{old:Bool}{h:ag}:∀ (n:Nat) (x y:AV),mh old h n x=some y->Fz old h x y
 |0,x,y,e=>by cases e
 |n+1,x,y,e=>by
  have ih:=fun x y=>uE (old:=old) (h:=h) n x y;cases x<;>simp only [mh,Option.some.injEq,reduceCtorEq] at e
  case undef=>subst e;exact .scalar _ rfl
  case bool=>subst e;exact .scalar _ rfl
  case int=>subst e;exact .scalar _ rfl
  case str=>subst e;exact .scalar _ rfl
  case gC=>subst e;exact .scalar _ rfl
  case au=>subst e;exact .scalar _ rfl
  case kX=>subst e;exact .scalar _ rfl
  case qh=>subst e;exact .scalar _ rfl
  case tc=>subst e;exact .scalar _ rfl
  case ptr b off=>
   split at e
   ·rename_i cs hb;split at e
    ·rename_i ds hd;cases e;have:=pF ih hd;exact .ptr b off cs ds hb this.len this.rel
    ·cases e
   ·cases e
  case slice b off len sz=>
   split at e
   ·rename_i cs hb;split at e
    ·rename_i ds hd;cases e;have:=pF ih hd;exact .slice b off len sz cs ds hb this.len this.rel
    ·cases e
   ·cases e
  case dI cs off=>
   cases ho:old with
   |false=>rw [ho] at e;cases e
   |true=>
    rw [<- ho];rw [ho] at e;simp only at e;split at e
    ·rename_i ds hd;cases e;rw [<- ho] at hd;have:=pF ih hd;exact .dI cs ds off ho this.len this.rel
    ·cases e
  case ay cs off len sz=>
   cases ho:old with
   |false=>rw [ho] at e;cases e
   |true=>
    rw [<- ho];rw [ho] at e;simp only at e;split at e
    ·rename_i ds hd;cases e;rw [<- ho] at hd;have:=pF ih hd;exact .ay cs ds off len sz ho this.len this.rel
    ·cases e
  case func f a b=>
   split at e
   ·cases e
   ·rename_i a' ha;split at e
    ·cases e
    ·rename_i b' hb;cases e;have h1:=pF ih ha;have h2:=pF ih hb;exact .func f a b a' b' h1.len h2.len h1.rel h2.rel
  case iface t v=>
   split at e
   ·rename_i w hw;cases e;exact .iface t v w (ih _ _ hw)
   ·cases e
  case agg cs=>
   split at e
   ·rename_i ds hd;cases e;have:=pF ih hd;exact .agg cs ds this.len this.rel
   ·cases e
  case tuple cs=>
   split at e
   ·rename_i ds hd;cases e;have:=pF ih hd;exact .tuple cs ds this.len this.rel
   ·cases e
def cK(old:Bool)(n:Nat)(r:AV):Out->ag->Bool
 |.ret v,h=>(match mh old h n v with|some r'=>AV.beq r' r|none=>false)
 |_,_=>false
def jg(a0:List AV)(r:AV):List AV->ag->(Out->ag->Bool)->Bool:=fun args h K=>
 AV.An args a0&&K (.ret r) h
def eA(n:Nat)(a0:List AV)(r:AV):List AV->ag->(Out->ag->Bool)->Bool:=fun args h K=>
 match BT (mh true h n) args with
 |some as=>AV.An as a0&&K (.ret r) h
 |none=>false
theorem cE{P:Program}{call:lI}(hs:g9 P call){f:FuncId}{a0:List AV}{n:Nat}{r:AV}(hp:AV.cN a0=true)(he:call f a0 ag.empty (cK true n r)=true)
  (args:List AV) (h:ag) (K:Out->ag->Bool) (hK:jg a0 r args h K=true):Sem P f args h K:=by
 simp only [jg,and_eq_true] at hK;obtain rfl:=AV.qG _ _ hK.1;refine Sem.frozen (hs.sem he) hp fun o h' ho=>?_
 cases o with
 |ret v=>
  simp only [cK] at ho;split at ho
  ·rename_i r' hr;obtain rfl:=AV.beq_eq _ _ ho;exact ⟨v,_,rfl,uE _ _ _ hr,hK.2⟩
  ·cases ho
 |panic v=>cases ho
theorem bz{P:Program}{call:lI}(hs:g9 P call){f:FuncId}{a0:List AV}{n m:Nat}{r:AV}(he:call f a0 ag.empty (cK false n r)=true)
  (args:List AV) (h:ag) (K:Out->ag->Bool) (hK:eA m a0 r args h K=true):Sem P f args h K:=by
 unfold eA at hK;split at hK
 ·rename_i as ha;simp only [and_eq_true] at hK;obtain rfl:=AV.qG _ _ hK.1;refine Sem.WV (hs.sem he) (pF (fun x y=>uE m x y) ha) fun o h' ho=>?_
  cases o with
  |ret v=>
   simp only [cK] at ho;split at ho
   ·rename_i r' hr;obtain rfl:=AV.beq_eq _ _ ho;exact ⟨v,_,rfl,uE _ _ _ hr,hK.2⟩
   ·cases ho
  |panic v=>cases ho
 ·cases hK
end
end Go.AM