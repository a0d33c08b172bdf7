/- Parts of the proof. Conditions: none. -/
import Derived.Test.YtfdanacohcffmaaGreatKf8
import Derived.LoopN
set_option linter.unusedSimpArgs false
set_option linter.unusedVariables false
namespace Go.AM
open List Nat Bool Option
open Go Go.RowKit
inductive YE (w0:World) (μ:Mu):AX->Exit->Prop where
 |normal:YE w0 μ .normal .normal
 |exit (id:Nat):YE w0 μ (.exit id) (.exit id)
 |ret:YE w0 μ .ret .ret
 |panic (v:AV) (vc:Value) (h:VR w0 μ v vc):YE w0 μ (.panic v) (.panic [{ v:=vc,recovered:=false }])
def wN(w0:World)(μ:Mu)(h:Heap)(w:World)(K:AX->St->Bool)(Q:Exit->Act->World->Prop):Prop:=
 ∀ (e:AX) (ex:Exit) (s':St) (a':Act) (w':World) (μ':Mu),K e s'=true->YE w0 μ' e ex->SR w0 μ' s' a' w'->Ext μ h w μ' s'.h w'->Q ex a' w'
section
variable {P:Program} {w0 w:World} {μ μ':Mu} {h h':Heap} {s:St} {a:Act}
theorem wN.after{K:AX->St->Bool}{Q:Exit->Act->World->Prop}(hl:wN w0 μ h w K Q){w':World}(hx:Ext μ h w μ' h' w'):wN w0 μ' h' w' K Q:=
 fun e ex s2 a2 w2 μ2 k2 q2 r2 x2=>hl e ex s2 a2 w2 μ2 k2 q2 r2 (hx.trans x2)
theorem IA(env:Env):∀ (n i t:Nat),aD (Kv env n i) t=if t<n then env (i+t) else bI
 |0,i,t=>by simp [Kv,aD]
 |n+1,i,t=>by
  cases t with
  |zero=>simp [Kv,aD]
  |succ t=>
   simp only [Kv,aD,IA env n (i+1) t];rw [show i+1+t=i+(t+1) by omega];by_cases h:t<n
   ·rw [if_pos h,if_pos (by omega)]
   ·rw [if_neg h,if_neg (by omega)]
theorem SR.tab(hs:SR w0 μ s a w):SR w0 μ s.tab a w:=by
 refine ⟨⟨hs.env.1,fun t=>?_⟩,hs.defs,hs.fP⟩;show VR w0 μ (aD (Kv s.env s.n 0) t) _;rw [IA];by_cases h:t<s.n
 ·rw [if_pos h,Nat.zero_add];exact hs.env.2 t
 ·rw [if_neg h]
  have:a.tmps.getD t undef=undef:=by
   have h1:=hs.env.1;rw [Array.getD_eq_getD_getElem?,Array.getElem?_eq_none (by omega)];rfl
  rw [this];exact VR.bI
theorem Mt(hm:P.follows .mixedOrders=true){call:jQ}(hc:fV P call)(rounds:Nat):∀ (c:Code) (s:St) (a:Act) (w:World) (μ:Mu) (K:AX->St->Bool) (Q:Exit->Act->World->Prop),SR w0 μ s a w ->
  wN w0 μ s.h w K Q->evalCode P call rounds c s K=true->c.wp P Q a w:=by
 intro c
 induction c with
 |skip=>intro s a w μ K Q hs hl h;exact wp_skip (hl _ _ _ _ _ _ h .normal hs (Ext.refl _ _ _))
 |region id ops draw=>
  intro s a w μ K Q hs hl h;simp only [evalCode] at h
  cases draw with
  |true=>
   rw [if_pos rfl] at h;obtain ⟨Iz,hp,h⟩:=fI h;exact Ms hm hc hp hs (fun s' a' w' μ' hK gC hx=>hl _ _ _ _ _ _ hK .normal gC hx) h
  |false=>
   simp only [false_eq_true,if_false] at h;refine wp_region ?_;have:=KJ (Q:=Q) hc ops.toList 0 s a w μ (fun j o hj=>by rw [Nat.zero_add];simpa using hj) hs ⟨fun s' a' w' μ' hK gC hx=>hl _ _ _ _ _ _ hK .normal gC hx,fun v vc s' a' w' μ' hK hv gC hx=>hl _ _ _ _ _ _ hK (.panic v vc hv) gC hx⟩ h;rw [range_eq_range'];simpa using this
 |seq x y V3 V4=>
  intro s a w μ K Q hs hl h;simp only [evalCode] at h;refine wp_seq (V3 s a w μ _ _ hs (fun e ex s' a' w' μ' hK hq gC hx=>?_) h)
  cases hq with
  |normal=>exact V4 s' a' w' μ' K Q gC (hl.after hx) hK
  |exit id=>exact hl _ _ _ _ _ _ hK (.exit id) gC hx
  |ret=>exact hl _ _ _ _ _ _ hK .ret gC hx
  |panic v vc hv=>exact hl _ _ _ _ _ _ hK (.panic v vc hv) gC hx
 |cond c x y V3 V4=>
  intro s a w μ K Q hs hl h;simp only [evalCode] at h;have hcv:=hs.eval c;split at h
  ·rename_i e;rw [e] at hcv;exact wp_cond_true hcv.iD (V3 s a w μ K Q hs hl h)
  ·rename_i e;rw [e] at hcv;exact wp_cond_false hcv.iD (V4 s a w μ K Q hs hl h)
  ·cases h
 |block id c ih=>
  intro s a w μ K Q hs hl h;simp only [evalCode] at h;refine wp_block (ih s a w μ _ _ hs (fun e ex s' a' w' μ' hK hq gC hx=>?_) h)
  cases hq with
  |normal=>exact hl _ _ _ _ _ _ hK .normal gC hx
  |exit Nc=>
   simp only [Exit.inBlock];simp only at hK;by_cases e:Nc=id
   ·rw [if_pos e];rw [if_pos e] at hK;exact hl _ _ _ _ _ _ hK .normal gC hx
   ·rw [if_neg e];rw [if_neg e] at hK;exact hl _ _ _ _ _ _ hK (.exit Nc) gC hx
  |ret=>exact hl _ _ _ _ _ _ hK .ret gC hx
  |panic v vc hv=>exact hl _ _ _ _ _ _ hK (.panic v vc hv) gC hx
 |loop c ih=>
  intro s a w μ K Q hs hl h;simp only [evalCode] at h;refine wp_loop_rounds rounds ?_
  have key:∀ (n:Nat) (s:St) (a:Act) (w:World) (μ:Mu),SR w0 μ s a w->wN w0 μ s.h w K Q->iter (evalCode P call rounds c) K n s=true->Code.rounds P c Q n a w:=by
   intro n
   induction n with
   |zero=>intro s a w μ hs hl h;cases h
   |succ n ihn=>
    intro s a w μ hs hl h;simp only [iter] at h;rw [rounds_succ];refine ih s a w μ _ _ hs (fun e ex s' a' w' μ' hK hq gC hx=>?_) h
    cases hq with
    |normal=>exact ihn s'.tab a' w' μ' gC.tab (hl.after hx) hK
    |exit id=>exact hl _ _ _ _ _ _ hK (.exit id) gC hx
    |ret=>exact hl _ _ _ _ _ _ hK .ret gC hx
    |panic v vc hv=>exact hl _ _ _ _ _ _ hK (.panic v vc hv) gC hx
  exact key rounds s a w μ hs hl h
 |exit id=>intro s a w μ K Q hs hl h;exact wp_exit (hl _ _ _ _ _ _ h (.exit id) hs (Ext.refl _ _ _))
 |ret=>intro s a w μ K Q hs hl h;exact wp_ret (hl _ _ _ _ _ _ h .ret hs (Ext.refl _ _ _))
 |_=>intros;rename_i h;simp [evalCode] at h
def oK(vc:Option Value):FrameMode:=match vc with
 |none=>.returning
 |some v=>.panicking [{ v,recovered:=false }]
inductive Es (w0:World) (μ:Mu):Option AV->Option Value->Prop where
 |none:Es w0 μ none none
 |some {v:AV} {vc:Value} (h:VR w0 μ v vc):Es w0 μ (some v) (some vc)
def Cz(P:Program)(D:qb):Prop:=
 ∀ f g,D f=some g->Enters P f/\∀ (args:List AV) (Ia:Option AV) (h:Heap) (K:Option AV->Heap->Bool),g args Ia h K=true ->
  ∀ (w0:World) (μ:Mu) (w:World) (vs:List Value) (pv:Option Value),Good w0 μ h w->dW w0 μ args vs->Es w0 μ Ia pv->CallsD P f vs.toArray (oK pv) w fun
   |.returned _,u',w'=>∃ sq Kc h' μ',K sq h'=true/\Es w0 μ' sq Kc/\settle u'=oK Kc/\Good w0 μ' h' w'/\Ext μ h w μ' h' w'
   |_,_,_=>False
def FJ(tmps:Array Value):ResultVar->Sem Value
 |.tmp t=>pure (tmps.getD t undef)
 |.cell x t=>do loadVar t (<- asAddr (tmps.getD x undef))
theorem IB(hs:SR w0 μ s a w){r:ResultVar}{v:AV}(h:BO P s r=some v) :
  ∃ vc,(FJ a.tmps r).run P w = .ok vc w/\VR w0 μ v vc:=by
 cases r with
 |tmp t=>
  simp only [BO,Option.some.injEq] at h;subst h;exact ⟨_,by simp only [FJ,Sem.run_pure],hs.env.2 t⟩
 |cell x t=>
  simp only [BO] at h;split at h
  ·rename_i i hi;have hx:=hs.env.2 x;unfold ag at h;split at h
   ·rename_i b off hxe;rw [hxe] at hx;split at h
    ·rename_i cs ho;generalize R4:a.tmps.getD x undef=xv at hx;cases hx;rename_i k hk;obtain ⟨vc,h1,h2⟩:=pM hi (hs.fP.cells hk ho) h;exact ⟨vc,by simp only [FJ,R4,asAddr,Sem.run_bind,Sem.run_pure,Result.andThen_ok,h1],h2⟩
    ·cases h
   ·rename_i cs off hxe;rw [hxe] at hx;generalize R4:a.tmps.getD x undef=xv at hx;cases hx;rename_i g o vs UR hv Cq sr;obtain ⟨vc,h1,h2⟩:=pM hi (hs.fP.KD UR Cq hv sr) h;exact ⟨vc,by simp only [FJ,R4,asAddr,Sem.run_bind,Sem.run_pure,Result.andThen_ok,h1],h2⟩
   ·cases h
  ·cases h
theorem Az(hs:SR w0 μ s a w):∀ (rs:List ResultVar) (vs:List AV),dh P s rs=some vs ->
  ∃ us:List Value,(rs.mapM (FJ a.tmps)).run P w = .ok us w/\dW w0 μ vs us
 |[],vs,h=>by
  simp only [dh,Option.some.injEq] at h;subst h;exact ⟨[],by simp,.nil⟩
 |r :: rs,vs,h=>by
  simp only [dh] at h;split at h
  ·rename_i v vs' h1 h2;cases h;obtain ⟨vc,e1,e2⟩:=IB hs h1;obtain ⟨us,e3,e4⟩:=Az hs rs vs' h2;exact ⟨vc :: us,by simp only [mapM_cons,Sem.run_bind,e1,Result.andThen_ok,e3,Sem.run_pure],.cons e2 e4⟩
  ·cases h
theorem AA(hs:SR w0 μ s a w){fn:Func}{vs:List AV}(h:dh P s fn.results.toList=some vs):∃ vc,(results fn a.tmps).run P w = .ok vc w/\VR w0 μ (oneOf vs) vc:=by
 obtain ⟨us,h1,h2⟩:=Az hs _ _ h
 have hm:(results fn a.tmps).run P w = .ok (if h:us.toArray.size=1 then us.toArray[0] else .tuple us.toArray) w:=by
  have hr:results fn a.tmps=(do let vs <- fn.results.mapM (FJ a.tmps);pure (if h:vs.size=1 then vs[0] else .tuple vs)):=by
   unfold results;congr 2
  rw [hr,<- Array.toArray_toList (xs:=fn.results),mapM_toArray];simp only [Sem.run_bind,map_eq_pure_bind,h1,Result.andThen_ok,Sem.run_pure]
 refine ⟨_,hm,?_⟩
 cases vs with
 |nil=>obtain rfl:=h2.gX;exact dW.tuple .nil
 |cons v vs=>
  obtain ⟨u,XJ,rfl,h3,h4⟩:=h2.cons_inv
  cases vs with
  |nil=>obtain rfl:=h4.gX;simpa [oneOf] using h3
  |cons v2 vs=>
   obtain ⟨u2,us2,rfl,h5,h6⟩:=h4.cons_inv;rw [dif_neg (by simp)];exact dW.tuple h2
theorem mQ{D:qb}(hD:Cz P D){fn:Func}{μb:Mu}{hb:Heap}{wb:World}{K:Out->Heap->Bool}:∀ (ds:List pJ) (Ds:List Deferred) (Ia:Option AV) (pv:Option Value) (s:St) (a:Act) (w:World) (μ:Mu),
  Cv w0 μ s.env s.n a.tmps->xW w0 μ ds Ds->Good w0 μ s.h w->Es w0 μ Ia pv->Ext μb hb wb μ s.h w->leave P D fn.results.toList K ds Ia s=true ->
  Leaves P fn a.tmps (zk w0 μb hb wb K) Ds (oK pv) w
 |[],Ds,Ia,pv,s,a,w,μ,he,hd,hg,hp,hx,h=>by
  cases hd;have hs:SR w0 μ ⟨s.env,s.n,[],s.h⟩ ⟨a.tmps,[]⟩ w:=⟨he,.nil,hg⟩
  cases hp with
  |none=>
   simp only [leave] at h;obtain ⟨vs,h1,h2⟩:=fI h
   have UT:dh P ⟨s.env,s.n,[],s.h⟩ fn.results.toList=some vs:=by
    rw [<- h1]
    have:∀ rs:List ResultVar,dh P ⟨s.env,s.n,[],s.h⟩ rs=dh P s rs:=by
     intro rs
     induction rs with
     |nil=>rfl
     |cons r rs ih=>simp only [dh,ih];cases r<;>rfl
    exact this _
   obtain ⟨vc,h3,h4⟩:=AA hs UT;exact ⟨vc,h3,_,_,_,h2,h4,hg,hx⟩
  |some hv=>
   simp only [leave] at h;exact ⟨_,_,_,_,h,rfl,hv,hg,hx⟩
 |d :: ds,Ds,Ia,pv,s,a,w,μ,he,hd,hg,hp,hx,h=>by
  cases hd with
  |cons hdr ht=>
   obtain ⟨cap,args,rfl,r1,r2⟩:=hdr;simp only [leave] at h;split at h
   ·rename_i g Mq;obtain ⟨su,V5⟩:=hD d.f g Mq;have hcd:=V5 _ _ _ _ h w0 μ w (args++cap) pv hg (r1.append r2) hp;refine ⟨by cases pv<;>simp [oK],.func d.f,cap.toArray,d.f,(args++cap).toArray,rfl,?_,?_⟩
    ·have e:args.toArray++cap.toArray=(args++cap).toArray:=(by simp);simp only [invoke,e,xX su]
    ·refine CallsD.mono hcd fun e u' w' hR=>?_
     cases e with
     |returned v=>
      obtain ⟨sq,Kc,h',μ',hK,Cm,hu,hg2,gm⟩:=hR;simp only;rw [hu];exact mQ hD ds _ sq Kc ⟨s.env,s.n,s.defs,h'⟩ a w' μ' (he.mono gm.mono) (ht.mono gm.mono) hg2 Cm (hx.trans gm) hK
     |panicked c=>exact hR.elim
     |outgrown=>exact hR.elim
   ·cases h
theorem zm{args:List AV}{vs:List Value}(h:dW w0 μ args vs){n:Nat}(hn:args.length<=n):Cv w0 μ (aD args) n (vs.toArray++Array.replicate (n-vs.toArray.size) undef):=by
 have hl:=h.len;refine ⟨by simp;omega,fun t=>?_⟩
 have key:∀ (args:List AV) (t:Nat),aD args t=(args[t]?).getD bI:=by
  intro args
  induction args with
  |nil=>intro t;simp [aD]
  |cons x xs ih=>
   intro t
   cases t with
   |zero=>simp [aD]
   |succ t=>simp [aD,ih]
 rw [key];by_cases ht:t<args.length
 ·have h1:args[t]?=some args[t]:=ep ht;obtain ⟨v,h2,h3⟩:=h.get h1;rw [h1]
  have:(vs.toArray++Array.replicate (n-vs.toArray.size) undef).getD t undef=v:=by
   rw [Array.getD_eq_getD_getElem?,Array.getElem?_append_left (by simp;omega)];simp [h2]
  rw [this];exact h3
 ·rw [getElem?_eq_none (by omega)]
  have:(vs.toArray++Array.replicate (n-vs.toArray.size) undef).getD t undef=undef:=by
   rw [Array.getD_eq_getD_getElem?,Array.getElem?_append_right (by simp;omega),Array.getElem?_replicate];split<;>rfl
  rw [this];exact VR.bI
def iM(P:Program)(F:xO):Prop:=
 ∀ f g,F f=some g->∀ args h K,g args h K=true->Enters P f/\∀ (w0:World) (μ:Mu) (w:World) (vs:List Value),Good w0 μ h w->dW w0 μ args vs->Calls P f vs.toArray w (zk w0 μ h w K)
theorem j6(hm:P.follows .mixedOrders=true){F:xO}{D:qb}(hF:iM P F)(hD:Cz P D):∀ n,fV P (bP P F D n)
 |0=>fun f args h K hh=>by cases hh
 |n+1=>fun f args h K hh=>by
  simp only [bP] at hh;split at hh
  ·rename_i g hg;exact hF f g hg args h K hh
  ·split at hh
   ·cases hh
   ·rename_i fn OP;split at hh
    ·rename_i Cr;simp only [and_eq_true,decide_eq_true_eq,bne_iff_ne,ne_eq] at Cr;unfold O6 at hh;split at hh
     ·cases hh
     ·rename_i c hb;refine ⟨⟨fn,c,OP,hb,Cr.2⟩,fun w0 μ w vs hg hv=>?_⟩;refine calls_of_wp_defers OP hb ?_;refine Mt (w0:=w0) hm (j6 hm hF hD n) n c ⟨aD args,fn.ntmps,[],h⟩ _ w μ _ _ ⟨zm hv Cr.1,.nil,hg⟩ (fun e ex s' a' w' μ' hK hq gC hx=>?_) hh
      cases hq with
      |normal=>exact mQ hD _ _ none none s' a' w' μ' gC.env gC.defs gC.fP .none hx hK
      |ret=>exact mQ hD _ _ none none s' a' w' μ' gC.env gC.defs gC.fP .none hx hK
      |exit id=>cases hK
      |panic v vc hv=>exact mQ hD _ _ (some v) (some vc) s' a' w' μ' gC.env gC.defs gC.fP (.some hv) hx hK
    ·cases hh
end
end Go.AM
namespace Go.AM
open List Nat Bool Option
open Go Go.RowKit
def Si:List Entry->List Entry->Bool
 |[],[]=>true
 |a :: as,b :: bs=>AV.beq a.1 b.1&&(AV.beq a.2.1 b.2.1&&(Nat.beq a.2.2 b.2.2&&Si as bs))
 |_,_=>false
def Heap.Clean(h:Heap):Prop:=∀ b,h.next<=b->h.get b=none
theorem Heap.tj:Heap.empty.Clean:=fun b _=>Trie.Cf b
theorem Heap.IC{h:Heap}(hc:h.Clean)(o:j5):(h.alloc o).Clean:=fun b hb=>by
 simp at hb;rw [Heap.aV,if_neg (by omega)];exact hc b (by omega)
section
variable {P:Program} {w0 w:World} {μ μ':Mu} {h h' h1:Heap}
def Mu.bare(μ:Mu):Mu:=⟨fun _=>Option.none,μ.z⟩
def Mu.xR(μ μ':Mu):Mu:=⟨μ.m,μ'.z⟩
theorem Good.nothing(hg:Good w0 μ h w):Good w0 μ.bare Heap.empty w:=
 ⟨hg.below,Heap.tj,by simp [Mu.bare],by simp [Mu.bare],hg.y7,by simp [Mu.bare],by simp [Mu.bare],by simp [Mu.bare]⟩
theorem Good.V6(hg:Good w0 μ h w){w':World}(Mq:Good w0 μ' h' w')(hx:Ext μ.bare Heap.empty w μ' h' w'):Good w0 (μ.xR μ') h w'/\Ext μ h w (μ.xR μ') h w':=by
 have hf:∀ k,k<w.heap.size->w'.heap[k]?=w.heap[k]?:=fun k hk=>hx.frame k hk (by simp [Mu.bare]);refine ⟨⟨Mq.below,hg.clean,hg.fresh,fun b k hb=>?_,Mq.y7,fun b k hb=>?_,fun b k o hb ho=>?_,hg.inj⟩,⟨⟨fun _ _ h=>h,hx.mono.y7⟩,fun k hk _=>hf k hk,fun _ _ h=>.inl h,hx.size,dL _,fun _ _ _=>rfl,fun _ _ h=>.inl h,hx.xR⟩⟩
 ·have:=hg.own b k hb;have:=hx.size;omega
 ·show μ'.z k.c=none
  cases hz:μ'.z k.c with
  |none=>rfl
  |some vs=>
   rcases hx.xR _ _ hz with h1|h1
   ·have UT:μ.z k.c=some vs:=h1;rw [hg.apart b k hb] at UT;cases UT
   ·have:=(hg.own b k hb).2;omega
 ·have ff:μ b=some k:=hb;rw [hf _ (hg.own b k ff).2];exact nI.mono (μ:=μ) (μ':=μ.xR μ') ⟨fun _ _ h=>h,hx.mono.y7⟩ (hg.obj b k o ff ho)
def U3(b:Bool):List AV->Heap->(Out->Heap->Bool)->Bool:=fun args h K=>
 match args with
 |[]=>K (.ret (.bool b)) h
 |_=>false
def U4(b:Bool):Out->Heap->Bool
 |.ret v,_=>AV.beq v (.bool b)
 |_,_=>false
theorem ID{call:jQ}(hs:fV P call){f:FuncId}{b:Bool}(he:call f [] Heap.empty (U4 b)=true)(args:List AV)(h:Heap)(K:Out->Heap->Bool)(hK:U3 b args h K=true) :
  Enters P f/\∀ (w0:World) (μ:Mu) (w:World) (vs:List Value),Good w0 μ h w->dW w0 μ args vs->Calls P f vs.toArray w (zk w0 μ h w K):=by
 obtain ⟨su,hc⟩:=hs _ _ _ _ he;refine ⟨su,fun w0 μ w vs hg hv=>?_⟩;unfold U3 at hK;split at hK
 ·obtain rfl:=hv.gX;refine Calls.mono (hc w0 _ w [] hg.nothing .nil) fun e w' hR=>?_
  cases e with
  |returned vc=>
   obtain ⟨v,h',μ',k1,k2,k3,k4⟩:=hR;obtain rfl:=AV.beq_eq _ _ k1;obtain ⟨g1,g2⟩:=hg.V6 k3 k4;rw [k2.iD];exact ⟨_,h,μ.xR μ',hK,.bool b,g1,g2⟩
  |panicked c=>
   obtain ⟨v,vc,h',μ',k1,_⟩:=hR;cases k1
  |outgrown=>exact hR.elim
 ·cases hK
end
end Go.AM
namespace Go.AM
open List Nat Bool Option
open Go Go.RowKit
section
variable {w0:World} {μ:Mu} {ρ:Nat->Nat}
end
mutual
theorem AV.beq_refl:∀ x:AV,AV.beq x x=true
 |.undef=>rfl
 |.bool a=>by simp [AV.beq]
 |.int k a=>by simp [AV.beq]
 |.str a=>by simp [AV.beq]
 |.ez=>rfl
 |.ptr a i=>by simp [AV.beq]
 |.dN a i=>by simp [AV.beq,AV.mR a]
 |.ax=>rfl
 |.slice b i l s=>by simp [AV.beq]
 |.au a i l s=>by simp [AV.beq,AV.mR a]
 |.jP=>rfl
 |.map a=>by simp [AV.beq]
 |.nu=>rfl
 |.func f a b=>by simp [AV.beq,AV.mR a,AV.mR b]
 |.pY=>rfl
 |.iface t v=>by simp [AV.beq,AV.beq_refl v]
 |.agg a=>by simp [AV.beq,AV.mR a]
 |.tuple a=>by simp [AV.beq,AV.mR a]
theorem AV.mR:∀ x:List AV,AV.xJ x x=true
 |[]=>rfl
 |a :: l=>by simp [AV.xJ,AV.beq_refl a,AV.mR l]
end
theorem yf:∀ n:Nat,Nat.beq n n=true
 |0=>rfl
 |n+1=>yf n
end Go.AM
namespace Go.AM
open List Nat Bool Option
def j8(g1 g2:List AV->Heap->(Out->Heap->Bool)->Bool):List AV->Heap->(Out->Heap->Bool)->Bool:=fun args h K=>g1 args h K||g2 args h K
theorem cu{g1 g2:List AV->Heap->(Out->Heap->Bool)->Bool}{args:List AV}{h:Heap}{K:Out->Heap->Bool}(hK:j8 g1 g2 args h K=true):g1 args h K=true\/g2 args h K=true:=by
 simpa [j8] using hK
end Go.AM
namespace Go.AM
open List Nat Bool Option
open Go Go.RowKit
noncomputable section
variable {K:Out->Heap->Bool} {args:List AV} {h:Heap} {f:FuncId} {env:Env} {P:Program}
def Sem(P:Program)(f:FuncId)(args:List AV)(h:Heap)(K:Out->Heap->Bool):Prop:=
 Enters P f/\∀ (w0:World) (μ:Mu) (w:World) (vs:List Value),Good w0 μ h w->dW w0 μ args vs->Calls P f vs.toArray w (zk w0 μ h w K)
theorem zk.mono{w0 w:World}{μ:Mu}{K':Out->Heap->Bool}(hk:∀ o h',K o h'=true->K' o h'=true){e:Ending}{w':World}(hr:zk w0 μ h w K e w'):zk w0 μ h w K' e w':=by
 cases e with
 |returned vc=>obtain ⟨v,h',μ',k1,k2⟩:=hr;exact ⟨v,h',μ',hk _ _ k1,k2⟩
 |panicked c=>obtain ⟨v,vc,h',μ',k1,k2⟩:=hr;exact ⟨v,vc,h',μ',hk _ _ k1,k2⟩
 |outgrown=>exact hr.elim
theorem Sem.mono{P:Program}{f:FuncId}{args:List AV}{h:Heap}{K K':Out->Heap->Bool}(hs:Sem P f args h K)(hk:∀ o h',K o h'=true->K' o h'=true):Sem P f args h K':=
 ⟨hs.1,fun w0 μ w vs hg hv=>(hs.2 w0 μ w vs hg hv).mono fun _ _ hr=>hr.mono hk⟩
def aB(P:Program):jQ:=fun f args h K=>@decide (Sem P f args h K) (Classical.propDecidable _)
theorem v7(P:Program):fV P (aB P):=fun f args h K hh=>@of_decide_eq_true _ (Classical.propDecidable _) hh
theorem ah(hs:Sem P f args h K):aB P f args h K=true:=@_root_.decide_eq_true _ (Classical.propDecidable _) hs
theorem fV.U5{call:jQ}(hc:fV P call)(hh:call f args h K=true):Sem P f args h K:=hc f args h K hh
theorem iM.U5{F:xO}(hF:iM P F){g:List AV->Heap->(Out->Heap->Bool)->Bool}(hg:F f=some g)(hh:g args h K=true):Sem P f args h K:=hF f g hg args h K hh
def yes(p:Prop):Bool:=@decide p (Classical.propDecidable _)
theorem cw{p:Prop}:yes p=true↔p:=@decide_eq_true_iff p (Classical.propDecidable _)
theorem Mv:∃ r:(St->(AX->St->Bool)->Bool)->St->(AX->St->Bool)->Bool,∀ f s K,r f s K=f s K:=⟨fun f s K=>f s K,fun _ _ _=>rfl⟩
def KP:(St->(AX->St->Bool)->Bool)->St->(AX->St->Bool)->Bool:=Classical.choose Mv
theorem uH(f:St->(AX->St->Bool)->Bool)(s:St)(K:AX->St->Bool):KP f s K=f s K:=Classical.choose_spec Mv f s K
def cV(j:Bool)(b:St->(AX->St->Bool)->Bool)(K:AX->St->Bool):AX->St->Bool
 |.normal,s'=>@Bool.rec (fun _=>Bool) (b s' K) (KP b s' K) j
 |.exit id,s'=>K (.exit id) s'
 |.ret,s'=>K .ret s'
 |.panic v,s'=>K (.panic v) s'
theorem IE(j:Bool)(b:St->(AX->St->Bool)->Bool)(K:AX->St->Bool)(s:St):cV j b K .normal s=b s K:=by
 cases j
 ·rfl
 ·exact uH b s K
def bf(id:Nat)(K:AX->St->Bool):AX->St->Bool
 |.normal,s'=>K .normal s'
 |.exit Nc,s'=>@Bool.rec (fun _=>Bool) (K (.exit Nc) s') (K .normal s') (Nat.beq Nc id)
 |.ret,s'=>K .ret s'
 |.panic v,s'=>K (.panic v) s'
def az(x:AV)(a b:Bool):Bool:=
 match x with
 |.bool t=>@Bool.rec (fun _=>Bool) b a t
 |_=>false
def FK(I:Nat->St->Prop)(n:Nat)(K:AX->St->Bool):AX->St->Bool
 |.normal,s'=>yes (∃ m,m<n/\I m s')
 |.exit id,s'=>K (.exit id) s'
 |.ret,s'=>K .ret s'
 |.panic v,s'=>K (.panic v) s'
def bY(f:St->(AX->St->Bool)->Bool)(s:St)(K:AX->St->Bool):Bool:=
 yes (∃ I:Nat->St->Prop,(∃ n,I n s)/\∀ n s',I n s'->f s' (FK I n K)=true)
def Mw(ops:List Oper)(j:Nat):Option Tmp:=match ops[j]? with|some g=>g.dst|none=>none
def PA(j:Nat):List Nat->Bool
 |[]=>false
 |k :: ks=>@Bool.rec (fun _=>Bool) (PA j ks) true (Nat.beq j k)
def jU(P:Program)(call:jQ)(ops:List Oper):List Oper->Nat->List Nat->St->(RS->Bool)->Bool
 |[],_,_,s,K=>K (.ok s)
 |o :: rest,i,sk,⟨env,n,defs,h⟩,K=>
  match o.guard with
  |none=>jg o.op P call env defs h fun
   |.ok v defs h=>iA env n o.dst v fun env=>jU P call ops rest (i+1) sk ⟨env,n,defs,h⟩ K
   |.panic v h=>K (.panic v ⟨env,n,defs,h⟩)
  |some (j,want)=>match Mw ops j with
   |none=>false
   |some d=>@Bool.rec (fun _=>Bool)
    (az (env d)
     (@Bool.rec (fun _=>Bool) (iA (aa env d (.bool true)) n o.dst bI fun env=>jU P call ops rest (i+1) (i :: sk) ⟨env,n,defs,h⟩ K)
      (jg o.op P call (aa env d (.bool true)) defs h fun
       |.ok v defs h=>iA (aa env d (.bool true)) n o.dst v fun env=>jU P call ops rest (i+1) sk ⟨env,n,defs,h⟩ K
       |.panic v h=>K (.panic v ⟨aa env d (.bool true),n,defs,h⟩)) want)
     (@Bool.rec (fun _=>Bool) (jg o.op P call (aa env d (.bool false)) defs h fun
       |.ok v defs h=>iA (aa env d (.bool false)) n o.dst v fun env=>jU P call ops rest (i+1) sk ⟨env,n,defs,h⟩ K
       |.panic v h=>K (.panic v ⟨aa env d (.bool false),n,defs,h⟩))
      (iA (aa env d (.bool false)) n o.dst bI fun env=>jU P call ops rest (i+1) (i :: sk) ⟨env,n,defs,h⟩ K) want))
    (match env d with
     |.tuple _=>iA env n o.dst bI fun env=>jU P call ops rest (i+1) (i :: sk) ⟨env,n,defs,h⟩ K
     |_=>false) (PA j sk)
def dI(P:Program)(call:jQ)(ops:List Oper)(ms:List Nat):List (Nat×Oper)->List Read->List Nat->St->(St->Bool)->Bool
 |[],_,_,s,K=>K s
 |p :: rest,lg,sk,⟨env,n,defs,h⟩,K=>
  @Option.rec (Nat×Bool) (fun _=>Bool)
   (match fo p.2.op with
   |.pure=>gN p.2.op P (evalArg env) h fun v _=>iA env n p.2.dst v fun eC=>dI P call ops ms rest lg sk ⟨eC,n,defs,h⟩ K
   |.read=>gN p.2.op P (evalArg env) h fun v _=>iA env n p.2.dst v fun eC=>dI P call ops ms rest (⟨p.1,p.2.op,env,v⟩ :: lg) sk ⟨eC,n,defs,h⟩ K
   |.alloc=>gN p.2.op P (evalArg env) h fun v h'=>iA env n p.2.dst v fun eC=>dI P call ops ms rest lg sk ⟨eC,n,defs,h'⟩ K
   |.J9=>
    jg p.2.op P call env defs h fun
     |.ok v jR h'=>if jy P ms p.1 h' lg then iA env n p.2.dst v fun eC=>dI P call ops ms rest lg sk ⟨eC,n,jR,h'⟩ K else false
     |.panic _ _=>false)
   (fun g=>match Mw ops g.1 with
    |none=>false
    |some d=>@Bool.rec (fun _=>Bool)
     (az (env d)
      (@Bool.rec (fun _=>Bool) (iA (aa env d (.bool true)) n p.2.dst bI fun eC=>dI P call ops ms rest lg (p.1 :: sk) ⟨eC,n,defs,h⟩ K)
       (match fo p.2.op with
       |.pure=>gN p.2.op P (evalArg (aa env d (.bool true))) h fun v _=>iA (aa env d (.bool true)) n p.2.dst v fun eC=>dI P call ops ms rest lg sk ⟨eC,n,defs,h⟩ K
       |.read=>gN p.2.op P (evalArg (aa env d (.bool true))) h fun v _=>iA (aa env d (.bool true)) n p.2.dst v fun eC=>dI P call ops ms rest (⟨p.1,p.2.op,aa env d (.bool true),v⟩ :: lg) sk ⟨eC,n,defs,h⟩ K
       |.alloc=>gN p.2.op P (evalArg (aa env d (.bool true))) h fun v h'=>iA (aa env d (.bool true)) n p.2.dst v fun eC=>dI P call ops ms rest lg sk ⟨eC,n,defs,h'⟩ K
       |.J9=>
        jg p.2.op P call (aa env d (.bool true)) defs h fun
         |.ok v jR h'=>if jy P ms p.1 h' lg then iA (aa env d (.bool true)) n p.2.dst v fun eC=>dI P call ops ms rest lg sk ⟨eC,n,jR,h'⟩ K else false
         |.panic _ _=>false) g.2)
      (@Bool.rec (fun _=>Bool)
       (match fo p.2.op with
       |.pure=>gN p.2.op P (evalArg (aa env d (.bool false))) h fun v _=>iA (aa env d (.bool false)) n p.2.dst v fun eC=>dI P call ops ms rest lg sk ⟨eC,n,defs,h⟩ K
       |.read=>gN p.2.op P (evalArg (aa env d (.bool false))) h fun v _=>iA (aa env d (.bool false)) n p.2.dst v fun eC=>dI P call ops ms rest (⟨p.1,p.2.op,aa env d (.bool false),v⟩ :: lg) sk ⟨eC,n,defs,h⟩ K
       |.alloc=>gN p.2.op P (evalArg (aa env d (.bool false))) h fun v h'=>iA (aa env d (.bool false)) n p.2.dst v fun eC=>dI P call ops ms rest lg sk ⟨eC,n,defs,h'⟩ K
       |.J9=>
        jg p.2.op P call (aa env d (.bool false)) defs h fun
         |.ok v jR h'=>if jy P ms p.1 h' lg then iA (aa env d (.bool false)) n p.2.dst v fun eC=>dI P call ops ms rest lg sk ⟨eC,n,jR,h'⟩ K else false
         |.panic _ _=>false)
       (iA (aa env d (.bool false)) n p.2.dst bI fun eC=>dI P call ops ms rest lg (p.1 :: sk) ⟨eC,n,defs,h⟩ K) g.2))
     (match env d with
      |.tuple _=>iA env n p.2.dst bI fun eC=>dI P call ops ms rest lg (p.1 :: sk) ⟨eC,n,defs,h⟩ K
      |_=>false) (PA g.1 sk)) p.2.guard
def adV(K:AX->St->Bool):RS->Bool
 |.ok s'=>K .normal s'
 |.panic v s'=>K (.panic v) s'
def oL(P:Program)(call:jQ):Code->St->(AX->St->Bool)->Bool
 |.skip,s,K=>K .normal s
 |.region _ ops draw,s,K=>
  @Bool.rec (fun _=>Bool) (jU P call ops.toList ops.toList 0 [] s (adV K))
   (af (H9 ops.toList) fun p=>dI P call ops.toList p.ms p.L [] [] s fun s'=>K .normal s') draw
 |.seq a b,s,K=>oL P call a s (cV (VL a b) (oL P call b) K)
 |.cond c a b,s,K=>az (evalArg s.env c) (oL P call a s K) (oL P call b s K)
 |.block id c,s,K=>oL P call c s (bf id K)
 |.loop c,s,K=>bY (oL P call c) s K
 |.exit id,s,K=>K (.exit id) s
 |.ret,s,K=>K .ret s
 |_,_,_=>false
theorem uI{d:Nat}{v:AV}(h:env d=v):aa env d v=env:=by
 funext t;rw [bO];by_cases e:t=d
 ·rw [if_pos e,e,h]
 ·rw [if_neg e]
theorem FL{x:AV}{a b:Bool}(h:az x a b=true):(x = .bool true/\a=true)\/(x = .bool false/\b=true):=by
 unfold az at h;split at h
 ·rename_i t;cases t
  ·exact .inr ⟨rfl,h⟩
  ·exact .inl ⟨rfl,h⟩
 ·cases h
section
variable {P:Program} {w0 w:World} {μ μ':Mu} {h h':Heap} {s:St} {a:Act}
theorem CA{ops:List Oper}{o:Oper}{j:Nat}{want:Bool}{d:Tmp}(hg:o.guard=some (j,want))(hd:Mw ops j=some d) :
  iU ops o env=(match env d with|.bool b=>some (b==want)|.tuple _=>some false|_=>none):=by
 unfold iU Mw at *;rw [hg];simp only;split at hd
 ·rename_i g hj;rw [hj];simp only [hd];rfl
 ·cases hd
theorem uJ{ρ:Operand->AV}{op:Op}{hp:Heap}{K1 K2:AV->Heap->Bool}(hk:∀ v h',K1 v h'=true->K2 v h'=true)(hh:gN op P ρ hp K1=true):gN op P ρ hp K2=true:=by
 have val:∀ {o:Option AV},kG hp K1 o=true->kG hp K2 o=true:=by
  intro o h;cases o with
  |none=>exact h
  |some a=>exact hk _ _ h
 have both:∀ {o:Option (AV×Heap)},vW K1 o=true->vW K2 o=true:=by
  intro o h;cases o with
  |none=>exact h
  |some a=>exact hk _ _ h
 have heap:∀ {o:Option Heap},Ak K1 o=true->Ak K2 o=true:=by
  intro o h;cases o with
  |none=>exact h
  |some a=>exact hk _ _ h
 have bind:∀ {α:Type} {o:Option α} {f g:α->Bool},(∀ a,f a=true->g a=true)->af o f=true->af o g=true:=by
  intro α o f g hfg h;cases o with
  |none=>exact h
  |some a=>exact hfg _ h
 cases op<;>simp only [gN] at hh ⊢<;>try (first|exact hk _ _ hh|exact val hh|exact both hh|exact heap hh|exact bind (fun _ h=>val h) hh|exact bind (fun _ h=>both h) hh|exact bind (fun _ h=>heap h) hh|exact bind (fun _ h=>hk _ _ h) hh|(exfalso;simp at hh;done))
 case buildSlice t n ps=>unfold rj at hh ⊢;exact bind (fun _ h=>bind (fun _ h=>hk _ _ h) h) hh
 case binOp o t x y u=>
  unfold O4 at hh ⊢;cases o<;>simp only at hh ⊢<;>first|exact val hh|exact bind (fun _ h=>val h) hh
 case makeFunc fn f c=>
  unfold Cc at hh ⊢;cases fn<;>simp only at hh ⊢<;>first|exact hk _ _ hh|exact hh
 case makeMap t r=>
  unfold Fx at hh ⊢;cases r<;>simp only at hh ⊢<;>first|exact hk _ _ hh|exact hh
 case slice t x lo hi mx=>
  unfold GL at hh ⊢;cases mx<;>simp only at hh ⊢<;>first|exact bind (fun _ h=>val h) hh|exact hh
 case call c=>
  obtain ⟨zf,args,ts⟩:=c;unfold sR at hh ⊢
  cases zf with
  |value f=>exact hh
  |invoke r m=>exact hh
  |builtin b=>
   simp only at hh ⊢;cases b<;>simp only [Fy,Kt,false_eq_true] at hh ⊢
   case append=>
    unfold zb at hh ⊢;split at hh
    ·exact bind (fun _ h=>both h) hh
    ·exact hh
   case copy=>
    unfold GM at hh ⊢;split at hh
    ·exact bind (fun _ h=>both h) hh
    ·exact hh
   case len=>
    unfold Ks at hh ⊢;split at hh
    ·exact bind (fun _ h=>val h) hh
    ·exact hh
   case delete=>
    unfold zc at hh ⊢;split at hh
    ·exact bind (fun _ h=>heap h) hh
    ·exact hh
   case min=>
    unfold uy at hh ⊢;split at hh
    ·exact val hh
    ·exact hh
   case max=>
    unfold uy at hh ⊢;split at hh
    ·exact val hh
    ·exact hh
theorem IF{op:Op}{defs:List pJ}{hp:Heap}{K1 K2:R->Bool}(hk:∀ r,K1 r=true->K2 r=true)(hh:jg op P (aB P) env defs hp K1=true):jg op P (aB P) env defs hp K2=true:=by
 have plain:∀ {op:Op},pL op P (aB P) env defs hp K1=true->pL op P (aB P) env defs hp K2=true:=fun h=>uJ (fun _ _ h=>hk _ h) h;cases op<;>simp only [jg] at hh ⊢<;>try exact plain hh
 case call c=>
  obtain ⟨zf,args,ts⟩:=c
  cases zf with
  |builtin b=>exact plain hh
  |invoke r m=>exact plain hh
  |value f=>
   simp only [wE,BJ] at hh ⊢;split at hh
   ·refine ah ((v7 P).U5 hh |>.mono fun o h' h=>?_);cases o<;>exact hk _ h
   ·exact hh
 case defer c=>
  obtain ⟨zf,args,ts⟩:=c
  cases zf with
  |builtin b=>exact hh
  |invoke r m=>exact hh
  |value f=>
   simp only [xL] at hh ⊢;split at hh
   ·exact hk _ hh
   ·exact hh
 case panic x=>
  simp only [xM] at hh ⊢;split at hh
  ·exact hk _ hh
  ·exact hh
 case next x b=>
  simp only [GN] at hh ⊢;generalize xK b (evalArg env x) hp=o at hh ⊢
  cases o with
  |none=>exact hh
  |some L=>
   simp only [af] at hh ⊢
   induction L with
   |nil=>rfl
   |cons p L ih=>
    simp only [l9,and_eq_true] at hh ⊢;exact ⟨hk _ hh.1,ih hh.2⟩
theorem qz{n:Nat}{dst:Option Tmp}{v:AV}{k1 k2:Env->Bool}(hk:∀ e,k1 e=true->k2 e=true)(hh:iA env n dst v k1=true):iA env n dst v k2=true:=by
 cases dst with
 |none=>exact hk _ hh
 |some d=>
  simp only [iA] at hh ⊢
  cases hb:ble (d+1) n with
  |false=>rw [hb] at hh;cases hh
  |true=>rw [hb] at hh;exact hk _ hh
theorem j9{ops:List Oper}{ms:List Nat}{K:St->Bool}:∀ (L:List (Nat×Oper)) (lg:List Read) (sk:List Nat) (s:St),dI P (aB P) ops ms L lg sk s K=true->fH P (aB P) ops ms L lg s K=true
 |[],lg,sk,s,hh=>hh
 |p :: rest,lg,sk,⟨env,n,defs,hp⟩,hh=>by
  have KQ:(match fo p.2.op with
   |.pure=>gN p.2.op P (evalArg env) hp fun v _=>iA env n p.2.dst v fun eC=>dI P (aB P) ops ms rest lg sk ⟨eC,n,defs,hp⟩ K
   |.read=>gN p.2.op P (evalArg env) hp fun v _=>iA env n p.2.dst v fun eC=>dI P (aB P) ops ms rest (⟨p.1,p.2.op,env,v⟩ :: lg) sk ⟨eC,n,defs,hp⟩ K
   |.alloc=>gN p.2.op P (evalArg env) hp fun v h'=>iA env n p.2.dst v fun eC=>dI P (aB P) ops ms rest lg sk ⟨eC,n,defs,h'⟩ K
   |.J9=>
    jg p.2.op P (aB P) env defs hp fun
     |.ok v jR h'=>if jy P ms p.1 h' lg then iA env n p.2.dst v fun eC=>dI P (aB P) ops ms rest lg sk ⟨eC,n,jR,h'⟩ K else false
     |.panic _ _=>false)=true->(match fo p.2.op with
   |.pure=>gN p.2.op P (evalArg env) hp fun v _=>iA env n p.2.dst v fun eC=>fH P (aB P) ops ms rest lg ⟨eC,n,defs,hp⟩ K
   |.read=>gN p.2.op P (evalArg env) hp fun v _=>iA env n p.2.dst v fun eC=>fH P (aB P) ops ms rest (⟨p.1,p.2.op,env,v⟩ :: lg) ⟨eC,n,defs,hp⟩ K
   |.alloc=>gN p.2.op P (evalArg env) hp fun v h'=>iA env n p.2.dst v fun eC=>fH P (aB P) ops ms rest lg ⟨eC,n,defs,h'⟩ K
   |.J9=>
    jg p.2.op P (aB P) env defs hp fun
     |.ok v jR h'=>if jy P ms p.1 h' lg then iA env n p.2.dst v fun eC=>fH P (aB P) ops ms rest lg ⟨eC,n,jR,h'⟩ K else false
     |.panic _ _=>false)=true:=by
   intro h;cases hk:fo p.2.op<;>rw [hk] at h<;>simp only at h ⊢
   ·exact uJ (fun v h' h=>qz (fun e h=>j9 rest _ _ _ h) h) h
   ·exact uJ (fun v h' h=>qz (fun e h=>j9 rest _ _ _ h) h) h
   ·exact uJ (fun v h' h=>qz (fun e h=>j9 rest _ _ _ h) h) h
   ·refine IF (fun r h=>?_) h
    cases r with
    |ok v jR h'=>
     simp only at h ⊢;split at h
     ·rename_i hs;rw [if_pos hs];exact qz (fun e h=>j9 rest _ _ _ h) h
     ·cases h
    |panic v h'=>cases h
  have CB:∀ sk',(iA env n p.2.dst bI fun eC=>dI P (aB P) ops ms rest lg sk' ⟨eC,n,defs,hp⟩ K)=true->(iA env n p.2.dst bI fun eC=>fH P (aB P) ops ms rest lg ⟨eC,n,defs,hp⟩ K)=true:=
   fun sk' h=>qz (fun e h=>j9 rest _ _ _ h) h
  simp only [dI] at hh;simp only [fH]
  cases hg:p.2.guard with
  |none=>
   rw [hg] at hh;have hw:iU ops p.2 env=some true:=by unfold iU;rw [hg]
   rw [hw];exact KQ hh
  |some g=>
   obtain ⟨j,want⟩:=g;rw [hg] at hh;simp only at hh;split at hh
   ·cases hh
   ·rename_i d hd;have KR:=CA (env:=env) hg hd
    cases hm:PA j sk with
    |true=>
     rw [hm] at hh;simp only at hh;split at hh
     ·rename_i vs hv;rw [hv] at KR;rw [KR];exact CB _ hh
     ·cases hh
    |false=>
     rw [hm] at hh;simp only at hh;rcases FL hh with ⟨hv,hh⟩|⟨hv,hh⟩
     ·rw [hv] at KR;rw [uI hv] at hh;rw [KR]
      cases want with
      |true=>exact KQ hh
      |false=>exact CB _ hh
     ·rw [hv] at KR;rw [uI hv] at hh;rw [KR]
      cases want with
      |true=>exact CB _ hh
      |false=>exact KQ hh
theorem GZ{call:jQ}(hc:fV P call){ops:Array Oper}{K:RS->Bool}{Q:Exit->Act->World->Prop}:∀ (l:List Oper) (i:Nat) (sk:List Nat) (s:St) (a:Act) (w:World) (μ:Mu),(∀ j o,l[j]?=some o->ops[i+j]?=some o) ->
  SR w0 μ s a w->(hl:zl w0 μ s.h w K Q)->jU P call ops.toList l i sk s K=true->wpOps P ops Q (range' i l.length) a w
 |[],i,sk,s,a,w,μ,hi,hs,hl,h=>by
  simp only [length_nil,range'_zero,wpOps];exact hl.ok _ _ _ _ h hs (Ext.refl _ _ _)
 |o :: rest,i,sk,s,a,w,μ,hi,hs,hl,h=>by
  have OO:ops[i]?=some o:=by simpa using hi 0 o rfl
  obtain ⟨env,n,defs,hp⟩:=s;simp only [length_cons,range'_succ,wpOps,OO]
  have vr:∀ j o',rest[j]?=some o'->ops[i+1+j]?=some o':=fun j o' hj=>by
   have:=hi (j+1) o' (by simpa using hj)
   rwa [show i+1+j=i+(j+1) by omega]
  have KQ:iU ops.toList o env=some true->(jg o.op P call env defs hp fun
       |.ok v defs h=>iA env n o.dst v fun env=>jU P call ops.toList rest (i+1) sk ⟨env,n,defs,h⟩ K
       |.panic v h=>K (.panic v ⟨env,n,defs,h⟩))=true ->
    (if Region.wanted o (yielded ops a.tmps) then o.wp P a w (wpOps P ops Q (range' (i+1) rest.length)) Q\/(o.asks P a w/\LetsOut Q) else wpOps P ops Q (range' (i+1) rest.length) (a.put o.dst undef) w):=by
   intro hw hh;rw [lf hs.env hw,if_pos rfl];refine .inl (BP hs hc ⟨fun v jR h' a' w' μ' hK gC hx=>?_,fun v vc h' w' μ' hK hv gC hx=>?_⟩ hh)
   ·exact GZ hc rest (i+1) sk _ a' w' μ' vr gC (hl.after hx) (k7 hK)
   ·exact hl.panic v vc _ a w' μ' hK hv gC hx
  have CB:iU ops.toList o env=some false->(iA env n o.dst bI fun env=>jU P call ops.toList rest (i+1) (i :: sk) ⟨env,n,defs,hp⟩ K)=true ->
    (if Region.wanted o (yielded ops a.tmps) then o.wp P a w (wpOps P ops Q (range' (i+1) rest.length)) Q\/(o.asks P a w/\LetsOut Q) else wpOps P ops Q (range' (i+1) rest.length) (a.put o.dst undef) w):=by
   intro hw hh;rw [lf hs.env hw];simp only [false_eq_true,if_false];have gC:=hs.left o.dst (h':=hp) VR.bI hs.fP (Mu.le.refl μ);exact GZ hc rest (i+1) (i :: sk) ⟨mD env n o.dst bI,n,defs,hp⟩ _ w μ vr gC hl (k7 hh)
  simp only [jU] at h;split at h
  ·rename_i hg;exact KQ (by unfold iU;rw [hg]) h
  ·rename_i j want hg;split at h
   ·cases h
   ·rename_i d hd;have KR:=CA (env:=env) hg hd
    cases hm:PA j sk with
    |true=>
     rw [hm] at h;simp only at h;split at h
     ·rename_i vs hv;rw [hv] at KR;exact CB KR h
     ·cases h
    |false=>
     rw [hm] at h;simp only at h;rcases FL h with ⟨hv,h⟩|⟨hv,h⟩
     ·rw [hv] at KR;rw [uI hv] at h
      cases want with
      |true=>exact KQ KR h
      |false=>exact CB KR h
     ·rw [hv] at KR;rw [uI hv] at h
      cases want with
      |true=>exact CB KR h
      |false=>exact KQ KR h
theorem PC(hm:P.follows .mixedOrders=true):∀ (c:Code) (s:St) (a:Act) (w:World) (μ:Mu) (K:AX->St->Bool) (Q:Exit->Act->World->Prop),SR w0 μ s a w ->
  wN w0 μ s.h w K Q->oL P (aB P) c s K=true->c.wp P Q a w:=by
 have hc:=v7 P;intro c
 induction c with
 |skip=>intro s a w μ K Q hs hl h;exact wp_skip (hl _ _ _ _ _ _ h .normal hs (Ext.refl _ _ _))
 |region id ops draw=>
  intro s a w μ K Q hs hl h;simp only [oL] at h
  cases draw with
  |true=>
   simp only at h;obtain ⟨Iz,hp,h⟩:=fI h;exact Ms hm hc hp hs (fun s' a' w' μ' hK gC hx=>hl _ _ _ _ _ _ hK .normal gC hx) (j9 _ _ _ _ h)
  |false=>
   simp only at h;refine wp_region ?_;have:=GZ (Q:=Q) hc ops.toList 0 [] s a w μ (fun j o hj=>by rw [Nat.zero_add];simpa using hj) hs ⟨fun s' a' w' μ' hK gC hx=>hl _ _ _ _ _ _ hK .normal gC hx,fun v vc s' a' w' μ' hK hv gC hx=>hl _ _ _ _ _ _ hK (.panic v vc hv) gC hx⟩ h;rw [range_eq_range'];simpa using this
 |seq x y V3 V4=>
  intro s a w μ K Q hs hl h;simp only [oL] at h;refine wp_seq (V3 s a w μ _ _ hs (fun e ex s' a' w' μ' hK hq gC hx=>?_) h)
  cases hq with
  |normal=>exact V4 s' a' w' μ' K Q gC (hl.after hx) (by rw [IE] at hK;exact hK)
  |exit id=>exact hl _ _ _ _ _ _ hK (.exit id) gC hx
  |ret=>exact hl _ _ _ _ _ _ hK .ret gC hx
  |panic v vc hv=>exact hl _ _ _ _ _ _ hK (.panic v vc hv) gC hx
 |cond c x y V3 V4=>
  intro s a w μ K Q hs hl h;simp only [oL,az] at h;have hcv:=hs.eval c;split at h
  ·rename_i t e;rw [e] at hcv
   cases t with
   |true=>exact wp_cond_true hcv.iD (V3 s a w μ K Q hs hl h)
   |false=>exact wp_cond_false hcv.iD (V4 s a w μ K Q hs hl h)
  ·cases h
 |block id c ih=>
  intro s a w μ K Q hs hl h;simp only [oL] at h;refine wp_block (ih s a w μ _ _ hs (fun e ex s' a' w' μ' hK hq gC hx=>?_) h)
  cases hq with
  |normal=>exact hl _ _ _ _ _ _ hK .normal gC hx
  |exit Nc=>
   simp only [Exit.inBlock];simp only [bf] at hK;by_cases e:Nc=id
   ·subst e;rw [yf] at hK;rw [if_pos rfl];exact hl _ _ _ _ _ _ hK .normal gC hx
   ·rw [if_neg e]
    have hb:Nat.beq Nc id=false:=by
     cases hq:Nat.beq Nc id with
     |false=>rfl
     |true=>exact absurd (eq_of_beq_eq_true hq) e
    rw [hb] at hK;exact hl _ _ _ _ _ _ hK (.exit Nc) gC hx
  |ret=>exact hl _ _ _ _ _ _ hK .ret gC hx
  |panic v vc hv=>exact hl _ _ _ _ _ _ hK (.panic v vc hv) gC hx
 |loop c ih=>
  intro s a w μ K Q hs hl h;simp only [oL,bY] at h;obtain ⟨I,⟨n0,hI0⟩,kD⟩:=cw.1 h;refine wp_loop_rounds (n0+1) ?_
  have key:∀ (N n:Nat) (s:St) (a:Act) (w:World) (μ:Mu),SR w0 μ s a w->wN w0 μ s.h w K Q->I n s->n<N->Code.rounds P c Q N a w:=by
   intro N
   induction N with
   |zero=>intro n s a w μ hs hl hi hn;omega
   |succ N ihn=>
    intro n s a w μ hs hl hi hn;rw [rounds_succ];refine ih s a w μ _ _ hs (fun e ex s' a' w' μ' hK hq gC hx=>?_) (kD n s hi)
    cases hq with
    |normal=>
     obtain ⟨m,Yr,IG⟩:=cw.1 hK;exact ihn m s' a' w' μ' gC (hl.after hx) IG (by omega)
    |exit id=>exact hl _ _ _ _ _ _ hK (.exit id) gC hx
    |ret=>exact hl _ _ _ _ _ _ hK .ret gC hx
    |panic v vc hv=>exact hl _ _ _ _ _ _ hK (.panic v vc hv) gC hx
  exact key (n0+1) n0 s a w μ hs hl hI0 (by omega)
 |exit id=>intro s a w μ K Q hs hl h;exact wp_exit (hl _ _ _ _ _ _ h (.exit id) hs (Ext.refl _ _ _))
 |ret=>intro s a w μ K Q hs hl h;exact wp_ret (hl _ _ _ _ _ _ h .ret hs (Ext.refl _ _ _))
 |_=>intros;rename_i h;simp [oL] at h
def eL:qb:=fun _=>none
theorem bN(P:Program):Cz P eL:=fun f g h=>by cases h
theorem b8(hm:P.follows .mixedOrders=true){D:qb}(hD:Cz P D){fn:Func}{c:Code}(OP:P.funcs[f]?=some fn)(hb:fn.body=some c)(PD:fn.name≠ "runtime.NumGoroutine")
  (hlen:args.length<=fn.ntmps)
  (hh:oL P (aB P) c ⟨aD args,fn.ntmps,[],h⟩ (aU P D fn.results.toList K)=true):Sem P f args h K:=by
 refine ⟨⟨fn,c,OP,hb,PD⟩,fun w0 μ w vs hg hv=>?_⟩;refine calls_of_wp_defers OP hb ?_;refine PC (w0:=w0) hm c ⟨aD args,fn.ntmps,[],h⟩ _ w μ _ _ ⟨zm hv hlen,.nil,hg⟩ (fun e ex s' a' w' μ' hK hq gC hx=>?_) hh
 cases hq with
 |normal=>exact mQ hD _ _ none none s' a' w' μ' gC.env gC.defs gC.fP .none hx hK
 |ret=>exact mQ hD _ _ none none s' a' w' μ' gC.env gC.defs gC.fP .none hx hK
 |exit id=>cases hK
 |panic v vc hv=>exact mQ hD _ _ (some v) (some vc) s' a' w' μ' gC.env gC.defs gC.fP (.some hv) hx hK
end
end
end Go.AM
namespace Go.AM
open List Nat Bool Option
open Go Go.RowKit
noncomputable section
variable {old:Bool} {h:Heap}
def AV.scalar:AV->Bool
 |.undef|.bool _|.int _ _|.str _|.ez|.ax|.jP|.nu|.pY=>true
 |_=>false
mutual
def AV.pure:AV->Bool
 |.ptr _ _|.slice _ _ _ _|.map _=>false
 |.dN cs _=>AV.cL cs
 |.au cs _ _ _=>AV.cL cs
 |.func _ a b=>AV.cL a&&AV.cL b
 |.iface _ v=>AV.pure v
 |.agg cs=>AV.cL cs
 |.tuple cs=>AV.cL cs
 |_=>true
def AV.cL:List AV->Bool
 |[]=>true
 |a :: as=>AV.pure a&&AV.cL as
end
theorem AV.lJ:∀ {l:List AV},AV.cL l=true->∀ {i:Nat} {x:AV},l[i]?=some x->x.pure=true
 |a :: l,h,0,x,e=>by simp [AV.cL] at h;simp at e;subst e;exact h.1
 |a :: l,h,i+1,x,e=>by simp [AV.cL] at h;exact AV.lJ h.2 (by simpa using e)
 |[],h,i,x,e=>by simp at e
theorem AV.G0{l m:List AV}(h:AV.cL l=true)(k:AV.cL m=true):AV.cL (l++m)=true:=by
 induction l with
 |nil=>exact k
 |cons a l ih=>simp only [AV.cL,and_eq_true,cons_append] at h ⊢;exact ⟨h.1,ih h.2⟩
inductive Fz (old:Bool) (h:Heap):AV->AV->Prop where
 |scalar (x:AV) (hx:x.scalar=true):Fz old h x x
 |dN (cs oG:List AV) (off:Nat) (ho:old=true) (hl:cs.length=oG.length) (hr:∀ (i:Nat) (x y:AV),cs[i]?=some x->oG[i]?=some y->Fz old h x y):Fz old h (.dN cs off) (.dN oG off)
 |au (cs oG:List AV) (off len sz:Nat) (ho:old=true) (hl:cs.length=oG.length) (hr:∀ (i:Nat) (x y:AV),cs[i]?=some x->oG[i]?=some y->Fz old h x y):Fz old h (.au cs off len sz) (.au oG off len sz)
 |ptr (b off:Nat) (cs oG:List AV) (hb:h.get b=some (.cells cs)) (hl:cs.length=oG.length) (hr:∀ (i:Nat) (x y:AV),cs[i]?=some x->oG[i]?=some y->Fz old h x y):Fz old h (.ptr b off) (.dN oG off)
 |slice (b off len sz:Nat) (cs oG:List AV) (hb:h.get b=some (.cells cs)) (hl:cs.length=oG.length) (hr:∀ (i:Nat) (x y:AV),cs[i]?=some x->oG[i]?=some y->Fz old h x y):Fz old h (.slice b off len sz) (.au oG off len sz)
 |func (f:FuncId) (xs ys YF XO:List AV) (h1:xs.length=YF.length) (h2:ys.length=XO.length) (r1:∀ (i:Nat) (x y:AV),xs[i]?=some x->YF[i]?=some y->Fz old h x y)
   (r2:∀ (i:Nat) (x y:AV),ys[i]?=some x->XO[i]?=some y->Fz old h x y):Fz old h (.func f xs ys) (.func f YF XO)
 |iface (t:TypeId) (x y:AV) (hr:Fz old h x y):Fz old h (.iface t x) (.iface t y)
 |agg (cs oG:List AV) (hl:cs.length=oG.length) (hr:∀ (i:Nat) (x y:AV),cs[i]?=some x->oG[i]?=some y->Fz old h x y):Fz old h (.agg cs) (.agg oG)
 |tuple (cs oG:List AV) (hl:cs.length=oG.length) (hr:∀ (i:Nat) (x y:AV),cs[i]?=some x->oG[i]?=some y->Fz old h x y):Fz old h (.tuple cs) (.tuple oG)
structure lQ (old:Bool) (h:Heap) (cs oG:List AV):Prop where
 len:cs.length=oG.length
 rel:∀ (i:Nat) (x y:AV),cs[i]?=some x->oG[i]?=some y->Fz old h x y
theorem lQ.nil:lQ old h [] []:=⟨rfl,by simp⟩
theorem lQ.cons{x y:AV}{xs ys:List AV}(h1:Fz old h x y)(h2:lQ old h xs ys):lQ old h (x :: xs) (y :: ys):=
 ⟨by simp [h2.len],fun i u v a b=>by
  cases i with
  |zero=>simp at a b;subst a;subst b;exact h1
  |succ i=>simp at a b;exact h2.rel i u v a b⟩
theorem lQ.append{xs ys us vs:List AV}(h1:lQ old h xs us)(h2:lQ old h ys vs):lQ old h (xs++ys) (us++vs):=by
 induction xs generalizing us with
 |nil=>cases us with
  |nil=>exact h2
  |cons u us=>exact absurd h1.len (by simp)
 |cons x xs ih=>cases us with
  |nil=>exact absurd h1.len (by simp)
  |cons u us=>exact .cons (h1.rel 0 x u rfl rfl) (ih ⟨by simpa using h1.len,fun i a b p q=>h1.rel (i+1) a b (by simpa using p) (by simpa using q)⟩)
mutual
theorem Fz.dO{h:Heap}:∀ {x:AV},x.pure=true->Fz true h x x
 |.undef,_=>.scalar _ rfl
 |.bool _,_=>.scalar _ rfl
 |.int _ _,_=>.scalar _ rfl
 |.str _,_=>.scalar _ rfl
 |.ez,_=>.scalar _ rfl
 |.ax,_=>.scalar _ rfl
 |.jP,_=>.scalar _ rfl
 |.nu,_=>.scalar _ rfl
 |.pY,_=>.scalar _ rfl
 |.dN cs off,hp=>.dN cs cs off rfl rfl (lQ.dO hp).rel
 |.au cs off len sz,hp=>.au cs cs off len sz rfl rfl (lQ.dO hp).rel
 |.func f a b,hp=>by
  simp only [AV.pure,and_eq_true] at hp;exact .func f a b a b rfl rfl (lQ.dO hp.1).rel (lQ.dO hp.2).rel
 |.iface t x,hp=>.iface t x x (Fz.dO hp)
 |.agg cs,hp=>.agg cs cs rfl (lQ.dO hp).rel
 |.tuple cs,hp=>.tuple cs cs rfl (lQ.dO hp).rel
 |.ptr _ _,hp=>by cases hp
 |.slice _ _ _ _,hp=>by cases hp
 |.map _,hp=>by cases hp
theorem lQ.dO{h:Heap}:∀ {l:List AV},AV.cL l=true->lQ true h l l
 |[],_=>.nil
 |a :: l,hp=>by
  simp only [AV.cL,and_eq_true] at hp;exact .cons (Fz.dO hp.1) (lQ.dO hp.2)
end
section
variable {P:Program} {w0 w w':World} {μ μ':Mu} {h h':Heap}
def Mu.Ke(μ:Mu)(w:World)(c:Nat):Option (List Value):=
 match μ.z c with
 |some vs=>some vs
 |none=>@ite _ (∃ b k,μ b=some k/\k.c=c) (Classical.propDecidable _) (match w.heap[c]? with|some (.cells arr _ _)=>some arr.toList|_=>none) none
theorem Mu.yg{c:Nat}{vs:List Value}(hz:μ.z c=some vs):μ.Ke w c=some vs:=by unfold Mu.Ke;rw [hz]
theorem Mu.Sj{b:Nat}{k:GP}(hb:μ b=some k)(hz:μ.z k.c=none){arr:Array Value}{e:TypeId}{fr:Nat×Nat}(hc:w.heap[k.c]?=some (.cells arr e fr)):μ.Ke w k.c=some arr.toList:=by
 unfold Mu.Ke;rw [hz];simp only;rw [if_pos ⟨b,k,hb,rfl⟩,hc]
theorem Mu.Mx{c:Nat}{vs:List Value}(h:μ.Ke w c=some vs):μ.z c=some vs\/((∃ b k,μ b=some k/\k.c=c)/\∃ arr e fr,w.heap[c]?=some (.cells arr e fr)/\arr.toList=vs):=by
 unfold Mu.Ke at h;split at h
 ·rename_i vs' hz;cases h;exact .inl hz
 ·split at h
  ·rename_i hex;split at h
   ·rename_i arr e fr hc;cases h;exact .inr ⟨hex,arr,e,fr,hc,rfl⟩
   ·cases h
  ·cases h
def Mu.G1(μ μ':Mu)(w w':World):Mu:=⟨μ.m,fun c=>@ite _ ((∃ vs,μ.z c=some vs)\/w.heap.size<=c) (Classical.propDecidable _) (μ'.Ke w' c) none⟩
theorem FM(Mq:Good w0 μ' h' w'){ν:Mu}(V7:∀ b k,μ' b=some k->∀ vs,μ'.Ke w' k.c=some vs->ν.z k.c=some vs)(hold:old=true->∀ c vs,μ'.z c=some vs->ν.z c=some vs){x y:AV}(hf:Fz old h' x y):∀ v,VR w0 μ' x v->VR w0 ν y v:=by
 have Sk:∀ b k cs,μ' b=some k->h'.get b=some (.cells cs)->∃ vs:List Value,vs.length=cs.length/\(ν.z k.c).isSome=true/\(∀ (i:Nat) (v:Value),vs[i]?=some v->ν.cell k.c (k.base+i)=some v) /\
   ∀ (i:Nat) (x:AV) (v:Value),cs[i]?=some x->vs[i]?=some v->VR w0 μ' x v:=by
  intro b k cs hb ho;obtain ⟨arr,e,fr,h1,h2,h3,h4,h5⟩:=Mq.obj b k _ hb ho;have hz:ν.z k.c=some arr.toList:=V7 b k hb _ (Mu.Sj hb (Mq.apart b k hb) h1);refine ⟨(arr.toList.drop k.base).take cs.length,by simp;omega,by rw [hz];rfl,fun i v hi=>?_,fun i x v hx hi=>?_⟩
  ·rw [getElem?_take] at hi;split at hi
   ·rw [getElem?_drop] at hi;unfold Mu.cell;rw [hz];exact hi
   ·cases hi
  ·obtain ⟨v',Kf,OQ⟩:=h5 i x hx;rw [getElem?_take] at hi;split at hi
   ·rw [getElem?_drop,Array.getElem?_toList,Kf] at hi;cases hi;exact OQ
   ·cases hi
 have rows:∀ {cs oG:List AV} {vs:List Value},cs.length=oG.length->cs.length=vs.length->(∀ (i:Nat) (x y:AV),cs[i]?=some x->oG[i]?=some y->∀ v,VR w0 μ' x v->VR w0 ν y v) ->
   (∀ (i:Nat) (x:AV) (v:Value),cs[i]?=some x->vs[i]?=some v->VR w0 μ' x v)->∀ (i:Nat) (y:AV) (v:Value),oG[i]?=some y->vs[i]?=some v->VR w0 ν y v:=by
  intro cs oG vs hl U6 ih hr i y v hy hv;have hi:i<oG.length:=(jJ.1 hy).1;have hx:cs[i]?=some (cs[i]'(by omega)):=ep (by omega);exact ih i _ y hx hy v (hr i _ v hx hv)
 induction hf with
 |scalar x hx=>
  intro v hv;cases hv<;>simp only [AV.scalar,false_eq_true,reduceCtorEq] at hx<;>constructor
 |dN cs oG off ho hl hr ih=>
  intro v hv;cases hv;rename_i g o vs hg hv Cq sr;refine .dN oG off g o vs ?_ (by omega) (fun i v hi=>?_) (rows hl Cq ih sr)
  ·trivial
  ·have:=hv i v hi;unfold Mu.cell at this ⊢;obtain ⟨zs,hz,BR⟩:=bind_eq_some_iff.1 this;rw [hold ho _ _ hz];exact BR
 |au cs oG off len sz ho hl hr ih=>
  intro v hv;cases hv;rename_i cap a g o vs hg hv Cq sr ha hc;refine .au oG off len sz cap a g o vs ?_ (by omega) (fun i v hi=>?_) (rows hl Cq ih sr) hc ha
  ·trivial
  ·have:=hv i v hi;unfold Mu.cell at this ⊢;obtain ⟨zs,hz,BR⟩:=bind_eq_some_iff.1 this;rw [hold ho _ _ hz];exact BR
 |ptr b off cs oG hb hl hr ih=>
  intro v hv;cases hv;rename_i k hk;obtain ⟨vs,q1,q2,q3,q4⟩:=Sk b k cs hk hb;exact .dN oG off k.c k.base vs trivial (by omega) q3 (rows hl (by omega) ih q4)
 |slice b off len sz cs oG hb hl hr ih=>
  intro v hv;cases hv;rename_i cap a k hk hc ha;obtain ⟨vs,q1,q2,q3,q4⟩:=Sk b k cs hk hb;exact .au oG off len sz cap a k.c k.base vs trivial (by omega) q3 (rows hl (by omega) ih q4) hc (fun h0=>(ha h0).1)
 |func f xs ys YF XO h1 h2 r1 r2 Yh Yi=>
  intro v hv;cases hv;rename_i us vs g1 q1 g2 q2;exact .func f YF XO us vs (by omega) (by omega) (rows h1 g1 Yh q1) (rows h2 g2 Yi q2)
 |iface t x y hr ih=>
  intro v hv;cases hv;rename_i v hv;exact .iface t y v (ih v hv)
 |agg cs oG hl hr ih=>
  intro v hv;cases hv;rename_i vs Cq sr;exact .agg oG vs (by omega) (rows hl Cq ih sr)
 |tuple cs oG hl hr ih=>
  intro v hv;cases hv;rename_i vs Cq sr;exact .tuple oG vs (by omega) (rows hl Cq ih sr)
theorem FN{ν:Mu}(hν:ν.m=fun _=>none)(hg:Good w0 μ h w)(Mq:Good w0 μ' h' w')(hx:Ext ν Heap.empty w μ' h' w')(hz:∀ c vs,μ.z c=some vs->ν.z c=some vs) :
  Good w0 (μ.G1 μ' w w') h w'/\Ext μ h w (μ.G1 μ' w w') h w':=by
 have hf:∀ k,k<w.heap.size->w'.heap[k]?=w.heap[k]?:=fun k hk=>hx.frame k hk (by simp [hν])
 have pI:∀ c vs,(μ.G1 μ' w w').z c=some vs->μ.z c=some vs\/w.heap.size<=c:=by
  intro c vs hc;have Et:@ite _ ((∃ vs,μ.z c=some vs)\/w.heap.size<=c) (Classical.propDecidable _) (μ'.Ke w' c) none=some vs:=hc;split at Et
  ·rename_i hor;rcases hor with ⟨vs',hv⟩|RB
   ·rw [Mu.yg (hx.mono.y7 _ _ (hz _ _ hv))] at Et;cases Et;exact .inl hv
   ·exact .inr RB
  ·cases Et
 have YG:∀ c vs,μ.z c=some vs->(μ.G1 μ' w w').z c=some vs:=by
  intro c vs hv;show @ite _ ((∃ vs,μ.z c=some vs)\/w.heap.size<=c) (Classical.propDecidable _) (μ'.Ke w' c) none=some vs;rw [if_pos (.inl ⟨vs,hv⟩)];exact Mu.yg (hx.mono.y7 _ _ (hz _ _ hv))
 have hle:μ.le (μ.G1 μ' w w'):=⟨fun _ _ h=>h,YG⟩
 refine ⟨⟨Mq.below,hg.clean,hg.fresh,fun b k hb=>?_,fun c vs hc=>?_,fun b k hb=>?_,fun b k o hb ho=>?_,hg.inj⟩,⟨hle,fun k hk _=>hf k hk,fun _ _ h=>.inl h,hx.size,dL _,fun _ _ _=>rfl,fun _ _ h=>.inl h,pI⟩⟩
 ·have:=hg.own b k hb;have:=hx.size;omega
 ·have Et:@ite _ ((∃ vs,μ.z c=some vs)\/w.heap.size<=c) (Classical.propDecidable _) (μ'.Ke w' c) none=some vs:=hc;split at Et
  ·rcases Mu.Mx Et with h1|⟨_,h1⟩
   ·exact Mq.y7 c vs h1
   ·exact h1
  ·cases Et
 ·cases hq:(μ.G1 μ' w w').z k.c with
  |none=>rfl
  |some vs=>
   have ff:μ b=some k:=hb;rcases pI _ _ hq with h1|h1
   ·rw [hg.apart b k ff] at h1;cases h1
   ·have:=(hg.own b k ff).2;omega
 ·have ff:μ b=some k:=hb;rw [hf _ (hg.own b k ff).2];exact nI.mono hle (hg.obj b k o ff ho)
theorem VR.Sm(hz:∀ c vs,μ.z c=some vs->μ'.z c=some vs){x:AV}{v:Value}(hv:VR w0 μ x v)(hp:x.pure=true):VR w0 μ' x v:=by
 have My:∀ g,(μ.z g).isSome=true->(μ'.z g).isSome=true:=fun g hg=>by
  obtain ⟨zs,h1⟩:=isSome_iff_exists.1 hg;rw [hz _ _ h1];rfl
 have hcell:∀ g i v,μ.cell g i=some v->μ'.cell g i=some v:=fun g i v hc=>by
  unfold Mu.cell at hc ⊢;obtain ⟨zs,h1,h2⟩:=bind_eq_some_iff.1 hc;rw [hz _ _ h1];exact h2
 induction hv with
 |undef v=>exact .undef v
 |bool b=>exact .bool b
 |int k n=>exact .int k n
 |str s=>exact .str s
 |ez=>exact .ez
 |ptr b off k hk=>cases hp
 |dN cs off g o vs hg hl hv hr ih=>exact .dN cs off g o vs trivial hl (fun i v h=>hcell _ _ _ (hv i v h)) (fun i x v hx hv=>ih i x v hx hv (AV.lJ hp hx))
 |ax=>exact .ax
 |slice b off len sz cap a k hk hc ha=>cases hp
 |au cs off len sz cap a g o vs hg hl hv hr hc ha ih=>exact .au cs off len sz cap a g o vs trivial hl (fun i v h=>hcell _ _ _ (hv i v h)) (fun i x v hx hv=>ih i x v hx hv (AV.lJ hp hx)) hc ha
 |jP=>exact .jP
 |map b k hk=>cases hp
 |nu=>exact .nu
 |func f xs ys us vs h1 h2 r1 r2 Yh Yi=>
  simp only [AV.pure,and_eq_true] at hp;exact .func f xs ys us vs h1 h2 (fun i x v hx hv=>Yh i x v hx hv (AV.lJ hp.1 hx)) (fun i x v hx hv=>Yi i x v hx hv (AV.lJ hp.2 hx))
 |pY=>exact .pY
 |iface t x v h ih=>exact .iface t x v (ih hp)
 |agg cs vs hl hr ih=>exact .agg cs vs hl (fun i x v hx hv=>ih i x v hx hv (AV.lJ hp hx))
 |tuple cs vs hl hr ih=>exact .tuple cs vs hl (fun i x v hx hv=>ih i x v hx hv (AV.lJ hp hx))
theorem Mz{ν:Mu}(hν:ν.m=fun _=>none)(Mq:Good w0 μ' h' w')(hx:Ext ν Heap.empty w μ' h' w')(hz:old=true->∀ c vs,ν.z c=some vs->μ.z c=some vs){x y:AV}(hf:Fz old h' x y){v:Value}(hv:VR w0 μ' x v) :
  VR w0 (μ.G1 μ' w w') y v:=by
 have key:∀ c vs,μ'.Ke w' c=some vs->((∃ vs,μ.z c=some vs)\/w.heap.size<=c)->(μ.G1 μ' w w').z c=some vs:=by
  intro c vs hi hor;show @ite _ ((∃ vs,μ.z c=some vs)\/w.heap.size<=c) (Classical.propDecidable _) (μ'.Ke w' c) none=some vs;rw [if_pos hor];exact hi
 refine FM Mq (ν:=μ.G1 μ' w w') (fun b k hb vs hi=>key _ _ hi (.inr ?_)) (fun ho c vs hc=>key _ _ (Mu.yg hc) ?_) hf v hv
 ·rcases hx.new b k hb with h1|h1|⟨b0,k0,h1,_⟩
  ·rw [hν] at h1;cases h1
  ·exact h1
  ·rw [hν] at h1;cases h1
 ·rcases hx.xR c vs hc with h1|h1
  ·exact .inl ⟨vs,hz ho _ _ h1⟩
  ·exact .inr h1
theorem Sem.frozen{f:FuncId}{args:List AV}{K0 K:Out->Heap->Bool}(hs:Sem P f args Heap.empty K0)(hp:AV.cL args=true)
  (hk:∀ o h',K0 o h'=true->∃ v r,o = .ret v/\Fz true h' v r/\K (.ret r) h=true):Sem P f args h K:=by
 refine ⟨hs.1,fun w0 μ w vs hg hv=>?_⟩;have Eh:dW w0 μ.bare args vs:=⟨hv.len,fun i x v hx FB=>VR.Sm (μ:=μ) (μ':=μ.bare) (fun _ _ h=>h) (hv.rel i x v hx FB) (AV.lJ hp hx)⟩
 refine (hs.2 w0 μ.bare w vs hg.nothing Eh).mono fun e w' hr=>?_
 cases e with
 |returned vc=>
  obtain ⟨v,h',μ',k1,k2,k3,k4⟩:=hr;obtain ⟨v',r,he,hf,hK⟩:=hk _ _ k1;cases he;obtain ⟨g1,g2⟩:=FN rfl hg k3 k4 (fun _ _ h=>h);exact ⟨r,h,_,hK,Mz (μ:=μ) rfl k3 k4 (fun _ _ _ h=>h) hf k2,g1,g2⟩
 |panicked c=>
  obtain ⟨v,vc,h',μ',k1,_⟩:=hr;obtain ⟨v',r,he,_⟩:=hk _ _ k1;cases he
 |outgrown=>exact hr.elim
theorem Good.adX(hg:Good w0 μ h w):Good w0 ⟨fun _=>none,μ.Ke w⟩ Heap.empty w:=
 ⟨hg.below,Heap.tj,by simp,by simp,fun c vs hc=>by
  rcases Mu.Mx hc with h1|⟨_,h1⟩
  ·exact hg.y7 c vs h1
  ·exact h1,by simp,by simp,by simp⟩
theorem Sem.V8{f:FuncId}{args v8:List AV}{K0 K:Out->Heap->Bool}(hs:Sem P f v8 Heap.empty K0)(hp:lQ true h args v8)
  (hk:∀ o h',K0 o h'=true->∃ v r,o = .ret v/\Fz false h' v r/\K (.ret r) h=true):Sem P f args h K:=by
 refine ⟨hs.1,fun w0 μ w vs hg hv=>?_⟩
 have Eh:dW w0 ⟨fun _=>none,μ.Ke w⟩ v8 vs:=by
  refine ⟨by rw [<- hp.len];exact hv.len,fun i y v hy FB=>?_⟩;have hi:i<v8.length:=(jJ.1 hy).1;have hx:args[i]?=some (args[i]'(by rw [hp.len];exact hi)):=ep _;exact FM hg (ν:=⟨fun _=>none,μ.Ke w⟩) (fun _ _ _ _ h=>h) (fun _ c vs h=>Mu.yg h) (hp.rel i _ y hx hy) v (hv.rel i _ v hx FB)
 refine (hs.2 w0 _ w vs hg.adX Eh).mono fun e w' hr=>?_
 cases e with
 |returned vc=>
  obtain ⟨v,h',μ',k1,k2,k3,k4⟩:=hr;obtain ⟨v',r,he,hf,hK⟩:=hk _ _ k1;cases he;obtain ⟨g1,g2⟩:=FN rfl hg k3 k4 (fun c vs h=>Mu.yg h);exact ⟨r,h,_,hK,Mz (μ:=μ) rfl k3 k4 (fun h=>by cases h) hf k2,g1,g2⟩
 |panicked c=>
  obtain ⟨v,vc,h',μ',k1,_⟩:=hr;obtain ⟨v',r,he,_⟩:=hk _ _ k1;cases he
 |outgrown=>exact hr.elim
end
end
end Go.AM
namespace Go.AM
open List Nat Bool Option
open Go Go.RowKit
noncomputable section
def zn(f:AV->Option AV):List AV->Option (List AV)
 |[]=>some []
 |x :: xs=>match f x with
  |none=>none
  |some y=>match zn f xs with
   |none=>none
   |some ys=>some (y :: ys)
def ke(old:Bool)(h:Heap):Nat->AV->Option AV
 |0,_=>none
 |n+1,x=>match x with
  |.ptr b off=>(match h.get b with
   |some (.cells cs)=>(match zn (ke old h n) cs with|some ds=>some (.dN ds off)|none=>none)
   |_=>none)
  |.slice b off len sz=>(match h.get b with
   |some (.cells cs)=>(match zn (ke old h n) cs with|some ds=>some (.au ds off len sz)|none=>none)
   |_=>none)
  |.dN cs off=>@Bool.rec (fun _=>Option AV) none (match zn (ke old h n) cs with|some ds=>some (.dN ds off)|none=>none) old
  |.au cs off len sz=>@Bool.rec (fun _=>Option AV) none (match zn (ke old h n) cs with|some ds=>some (.au ds off len sz)|none=>none) old
  |.func f a b=>(match zn (ke old h n) a with
   |none=>none
   |some a'=>match zn (ke old h n) b with
    |none=>none
    |some b'=>some (.func f a' b'))
  |.iface t v=>(match ke old h n v with|some w=>some (.iface t w)|none=>none)
  |.agg cs=>(match zn (ke old h n) cs with|some ds=>some (.agg ds)|none=>none)
  |.tuple cs=>(match zn (ke old h n) cs with|some ds=>some (.tuple ds)|none=>none)
  |.map _=>none
  |x=>some x
theorem m7{old:Bool}{h:Heap}{f:AV->Option AV}(hf:∀ x y,f x=some y->Fz old h x y):∀ {xs ys:List AV},zn f xs=some ys->lQ old h xs ys
 |[],ys,e=>by simp only [zn,Option.some.injEq] at e;subst e;exact .nil
 |x :: xs,ys,e=>by
  simp only [zn] at e;split at e
  ·cases e
  ·rename_i y hy;split at e
   ·cases e
   ·rename_i XO Yk;cases e;exact .cons (hf _ _ hy) (m7 hf Yk)
theorem rz{old:Bool}{h:Heap}:∀ (n:Nat) (x y:AV),ke old h n x=some y->Fz old h x y
 |0,x,y,e=>by cases e
 |n+1,x,y,e=>by
  have ih:=fun x y=>rz (old:=old) (h:=h) n x y;cases x<;>simp only [ke,Option.some.injEq,reduceCtorEq] at e
  case undef=>subst e;exact .scalar _ rfl
  case bool=>subst e;exact .scalar _ rfl
  case int=>subst e;exact .scalar _ rfl
  case str=>subst e;exact .scalar _ rfl
  case ez=>subst e;exact .scalar _ rfl
  case ax=>subst e;exact .scalar _ rfl
  case jP=>subst e;exact .scalar _ rfl
  case nu=>subst e;exact .scalar _ rfl
  case pY=>subst e;exact .scalar _ rfl
  case ptr b off=>
   split at e
   ·rename_i cs hb;split at e
    ·rename_i ds hd;cases e;have:=m7 ih hd;exact .ptr b off cs ds hb this.len this.rel
    ·cases e
   ·cases e
  case slice b off len sz=>
   split at e
   ·rename_i cs hb;split at e
    ·rename_i ds hd;cases e;have:=m7 ih hd;exact .slice b off len sz cs ds hb this.len this.rel
    ·cases e
   ·cases e
  case dN cs off=>
   cases ho:old with
   |false=>rw [ho] at e;cases e
   |true=>
    rw [<- ho];rw [ho] at e;simp only at e;split at e
    ·rename_i ds hd;cases e;rw [<- ho] at hd;have:=m7 ih hd;exact .dN cs ds off ho this.len this.rel
    ·cases e
  case au cs off len sz=>
   cases ho:old with
   |false=>rw [ho] at e;cases e
   |true=>
    rw [<- ho];rw [ho] at e;simp only at e;split at e
    ·rename_i ds hd;cases e;rw [<- ho] at hd;have:=m7 ih hd;exact .au cs ds off len sz ho this.len this.rel
    ·cases e
  case func f a b=>
   split at e
   ·cases e
   ·rename_i a' ha;split at e
    ·cases e
    ·rename_i b' hb;cases e;have h1:=m7 ih ha;have h2:=m7 ih hb;exact .func f a b a' b' h1.len h2.len h1.rel h2.rel
  case iface t v=>
   split at e
   ·rename_i w hw;cases e;exact .iface t v w (ih _ _ hw)
   ·cases e
  case agg cs=>
   split at e
   ·rename_i ds hd;cases e;have:=m7 ih hd;exact .agg cs ds this.len this.rel
   ·cases e
  case tuple cs=>
   split at e
   ·rename_i ds hd;cases e;have:=m7 ih hd;exact .tuple cs ds this.len this.rel
   ·cases e
def cy(old:Bool)(n:Nat)(r:AV):Out->Heap->Bool
 |.ret v,h=>(match ke old h n v with|some r'=>AV.beq r' r|none=>false)
 |_,_=>false
def iX(a0:List AV)(r:AV):List AV->Heap->(Out->Heap->Bool)->Bool:=fun args h K=>
 AV.xJ args a0&&K (.ret r) h
def dF(n:Nat)(a0:List AV)(r:AV):List AV->Heap->(Out->Heap->Bool)->Bool:=fun args h K=>
 match zn (ke true h n) args with
 |some as=>AV.xJ as a0&&K (.ret r) h
 |none=>false
theorem cJ{P:Program}{call:jQ}(hs:fV P call){f:FuncId}{a0:List AV}{n:Nat}{r:AV}(hp:AV.cL a0=true)(he:call f a0 Heap.empty (cy true n r)=true)
  (args:List AV) (h:Heap) (K:Out->Heap->Bool) (hK:iX a0 r args h K=true):Sem P f args h K:=by
 simp only [iX,and_eq_true] at hK;obtain rfl:=AV.nK _ _ hK.1;refine Sem.frozen (hs.U5 he) hp fun o h' ho=>?_
 cases o with
 |ret v=>
  simp only [cy] at ho;split at ho
  ·rename_i r' hr;obtain rfl:=AV.beq_eq _ _ ho;exact ⟨v,_,rfl,rz _ _ _ hr,hK.2⟩
  ·cases ho
 |panic v=>cases ho
theorem aZ{P:Program}{call:jQ}(hs:fV P call){f:FuncId}{a0:List AV}{n m:Nat}{r:AV}(he:call f a0 Heap.empty (cy false n r)=true)
  (args:List AV) (h:Heap) (K:Out->Heap->Bool) (hK:dF m a0 r args h K=true):Sem P f args h K:=by
 unfold dF at hK;split at hK
 ·rename_i as ha;simp only [and_eq_true] at hK;obtain rfl:=AV.nK _ _ hK.1;refine Sem.V8 (hs.U5 he) (m7 (fun x y=>rz m x y) ha) fun o h' ho=>?_
  cases o with
  |ret v=>
   simp only [cy] at ho;split at ho
   ·rename_i r' hr;obtain rfl:=AV.beq_eq _ _ ho;exact ⟨v,_,rfl,rz _ _ _ hr,hK.2⟩
   ·cases ho
  |panic v=>cases ho
 ·cases hK
end
end Go.AM