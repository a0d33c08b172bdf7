/- Parts of the proof. Conditions: none. -/
import Derived.Test.YthmbnnjimbjplaaGreatDoorTu7
import Derived.LoopN
set_option linter.unusedSimpArgs false
set_option linter.unusedVariables false
namespace Go.AM
open List Nat Bool Option
open Go Go.RowKit
inductive Lm (w0:World) (μ:Mu):AX->Exit->Prop where
 |normal:Lm w0 μ .normal .normal
 |exit (id:Nat):Lm w0 μ (.exit id) (.exit id)
 |ret:Lm w0 μ .ret .ret
 |panic (v:AV) (vc:Value) (h:VR w0 μ v vc):Lm w0 μ (.panic v) (.panic [{ v:=vc,recovered:=false }])
def ou(w0:World)(μ:Mu)(h:Heap)(w:World)(K:AX->St->Bool)(Q:Exit->Act->World->Prop):Prop:=
 ∀ (e:AX) (ex:Exit) (s':St) (a':Act) (w':World) (μ':Mu),K e s'=true->Lm w0 μ' e ex->SR w0 μ' s' a' w'->Ext μ h w μ' s'.h w'->Q ex a' w'
section
variable {P:Program} {w0 w:World} {μ μ':Mu} {h h':Heap} {s:St} {a:Act}
theorem ou.after{K:AX->St->Bool}{Q:Exit->Act->World->Prop}(hl:ou w0 μ h w K Q){w':World}(hx:Ext μ h w μ' h' w'):ou w0 μ' h' w' K Q:=
 fun e ex s2 a2 w2 μ2 k2 q2 r2 x2=>hl e ex s2 a2 w2 μ2 k2 q2 r2 (hx.trans x2)
theorem Ap(env:Env):∀ (n i t:Nat),az (BO env n i) t=if t<n then env (i+t) else aZ
 |0,i,t=>by simp [BO,az]
 |n+1,i,t=>by
  cases t with
  |zero=>simp [BO,az]
  |succ t=>
   simp only [BO,az,Ap env n (i+1) t];rw [show i+1+t=i+(t+1) by omega];by_cases h:t<n
   ·rw [if_pos h,if_pos (by omega)]
   ·rw [if_neg h,if_neg (by omega)]
theorem SR.tab(hs:SR w0 μ s a w):SR w0 μ s.tab a w:=by
 refine ⟨⟨hs.env.1,fun t=>?_⟩,hs.defs,hs.fE⟩;show VR w0 μ (az (BO s.env s.n 0) t) _;rw [Ap];by_cases h:t<s.n
 ·rw [if_pos h,Nat.zero_add];exact hs.env.2 t
 ·rw [if_neg h]
  have:a.tmps.getD t undef=undef:=by
   have h1:=hs.env.1;rw [Array.getD_eq_getD_getElem?,Array.getElem?_eq_none (by omega)];rfl
  rw [this];exact VR.aZ
theorem C9(hm:P.follows .mixedOrders=true){call:fT}(hc:di P call)(rounds:Nat):∀ (c:Code) (s:St) (a:Act) (w:World) (μ:Mu) (K:AX->St->Bool) (Q:Exit->Act->World->Prop),SR w0 μ s a w ->
  ou w0 μ s.h w K Q->evalCode P call rounds c s K=true->c.wp P Q a w:=by
 intro c
 induction c with
 |skip=>intro s a w μ K Q hs hl h;exact wp_skip (hl _ _ _ _ _ _ h .normal hs (Ext.refl _ _ _))
 |region id ops draw=>
  intro s a w μ K Q hs hl h;simp only [evalCode] at h
  cases draw with
  |true=>
   rw [if_pos rfl] at h;obtain ⟨Ao,hp,h⟩:=cZ h;exact C8 hm hc hp hs (fun s' a' w' μ' hK ei hx=>hl _ _ _ _ _ _ hK .normal ei hx) h
  |false=>
   simp only [false_eq_true,if_false] at h;refine wp_region ?_;have:=B4 (Q:=Q) hc ops.toList 0 s a w μ (fun j o hj=>by rw [Nat.zero_add];simpa using hj) hs ⟨fun s' a' w' μ' hK ei hx=>hl _ _ _ _ _ _ hK .normal ei hx,fun v vc s' a' w' μ' hK hv ei hx=>hl _ _ _ _ _ _ hK (.panic v vc hv) ei hx⟩ h;rw [range_eq_range'];simpa using this
 |seq x y Jq Jr=>
  intro s a w μ K Q hs hl h;simp only [evalCode] at h;refine wp_seq (Jq s a w μ _ _ hs (fun e ex s' a' w' μ' hK hq ei hx=>?_) h)
  cases hq with
  |normal=>exact Jr s' a' w' μ' K Q ei (hl.after hx) hK
  |exit id=>exact hl _ _ _ _ _ _ hK (.exit id) ei hx
  |ret=>exact hl _ _ _ _ _ _ hK .ret ei hx
  |panic v vc hv=>exact hl _ _ _ _ _ _ hK (.panic v vc hv) ei hx
 |cond c x y Jq Jr=>
  intro s a w μ K Q hs hl h;simp only [evalCode] at h;have hcv:=hs.eval c;split at h
  ·rename_i e;rw [e] at hcv;exact wp_cond_true hcv.eH (Jq s a w μ K Q hs hl h)
  ·rename_i e;rw [e] at hcv;exact wp_cond_false hcv.eH (Jr s a w μ K Q hs hl h)
  ·cases h
 |block id c ih=>
  intro s a w μ K Q hs hl h;simp only [evalCode] at h;refine wp_block (ih s a w μ _ _ hs (fun e ex s' a' w' μ' hK hq ei hx=>?_) h)
  cases hq with
  |normal=>exact hl _ _ _ _ _ _ hK .normal ei hx
  |exit DG=>
   simp only [Exit.inBlock];simp only at hK;by_cases e:DG=id
   ·rw [if_pos e];rw [if_pos e] at hK;exact hl _ _ _ _ _ _ hK .normal ei hx
   ·rw [if_neg e];rw [if_neg e] at hK;exact hl _ _ _ _ _ _ hK (.exit DG) ei hx
  |ret=>exact hl _ _ _ _ _ _ hK .ret ei hx
  |panic v vc hv=>exact hl _ _ _ _ _ _ hK (.panic v vc hv) ei hx
 |loop c ih=>
  intro s a w μ K Q hs hl h;simp only [evalCode] at h;refine wp_loop_rounds rounds ?_
  have key:∀ (n:Nat) (s:St) (a:Act) (w:World) (μ:Mu),SR w0 μ s a w->ou w0 μ s.h w K Q->iter (evalCode P call rounds c) K n s=true->Code.rounds P c Q n a w:=by
   intro n
   induction n with
   |zero=>intro s a w μ hs hl h;cases h
   |succ n Ng=>
    intro s a w μ hs hl h;simp only [iter] at h;rw [rounds_succ];refine ih s a w μ _ _ hs (fun e ex s' a' w' μ' hK hq ei hx=>?_) h
    cases hq with
    |normal=>exact Ng s'.tab a' w' μ' ei.tab (hl.after hx) hK
    |exit id=>exact hl _ _ _ _ _ _ hK (.exit id) ei hx
    |ret=>exact hl _ _ _ _ _ _ hK .ret ei hx
    |panic v vc hv=>exact hl _ _ _ _ _ _ hK (.panic v vc hv) ei hx
  exact key rounds s a w μ hs hl h
 |exit id=>intro s a w μ K Q hs hl h;exact wp_exit (hl _ _ _ _ _ _ h (.exit id) hs (Ext.refl _ _ _))
 |ret=>intro s a w μ K Q hs hl h;exact wp_ret (hl _ _ _ _ _ _ h .ret hs (Ext.refl _ _ _))
 |_=>intros;rename_i h;simp [evalCode] at h
def jA(vc:Option Value):FrameMode:=match vc with
 |none=>.returning
 |some v=>.panicking [{ v,recovered:=false }]
inductive wO (w0:World) (μ:Mu):Option AV->Option Value->Prop where
 |none:wO w0 μ none none
 |some {v:AV} {vc:Value} (h:VR w0 μ v vc):wO w0 μ (some v) (some vc)
def uU(P:Program)(D:j8):Prop:=
 ∀ f g,D f=some g->Enters P f/\∀ (args:List AV) (zW:Option AV) (h:Heap) (K:Option AV->Heap->Bool),g args zW h K=true ->
  ∀ (w0:World) (μ:Mu) (w:World) (vs:List Value) (pv:Option Value),Good w0 μ h w->cj w0 μ args vs->wO w0 μ zW pv->CallsD P f vs.toArray (jA pv) w fun
   |.returned _,u',w'=>∃ lT BC h' μ',K lT h'=true/\wO w0 μ' lT BC/\settle u'=jA BC/\Good w0 μ' h' w'/\Ext μ h w μ' h' w'
   |_,_,_=>False
def xR(tmps:Array Value):ResultVar->Sem Value
 |.tmp t=>pure (tmps.getD t undef)
 |.cell x t=>do loadVar t (<- asAddr (tmps.getD x undef))
theorem Aq(hs:SR w0 μ s a w){r:ResultVar}{v:AV}(h:tZ P s r=some v) :
  ∃ vc,(xR a.tmps r).run P w = .ok vc w/\VR w0 μ v vc:=by
 cases r with
 |tmp t=>
  simp only [tZ,Option.some.injEq] at h;subst h;exact ⟨_,by simp only [xR,Sem.run_pure],hs.env.2 t⟩
 |cell x t=>
  simp only [tZ] at h;split at h
  ·rename_i i hi;have hx:=hs.env.2 x;unfold au at h;split at h
   ·rename_i b off Nh;rw [Nh] at hx;split at h
    ·rename_i cs ho;generalize GW:a.tmps.getD x undef=xv at hx;cases hx;rename_i k hk;obtain ⟨vc,h1,h2⟩:=jP hi (hs.fE.cells hk ho) h;exact ⟨vc,by simp only [xR,GW,asAddr,Sem.run_bind,Sem.run_pure,Result.andThen_ok,h1],h2⟩
    ·cases h
   ·rename_i cs off Nh;rw [Nh] at hx;generalize GW:a.tmps.getD x undef=xv at hx;cases hx;rename_i g o vs It hv uM ua;obtain ⟨vc,h1,h2⟩:=jP hi (hs.fE.BY It uM hv ua) h;exact ⟨vc,by simp only [xR,GW,asAddr,Sem.run_bind,Sem.run_pure,Result.andThen_ok,h1],h2⟩
   ·cases h
  ·cases h
theorem sB(hs:SR w0 μ s a w):∀ (rs:List ResultVar) (vs:List AV),dz P s rs=some vs ->
  ∃ us:List Value,(rs.mapM (xR a.tmps)).run P w = .ok us w/\cj w0 μ vs us
 |[],vs,h=>by
  simp only [dz,Option.some.injEq] at h;subst h;exact ⟨[],by simp,.nil⟩
 |r :: rs,vs,h=>by
  simp only [dz] at h;split at h
  ·rename_i v Ni h1 h2;cases h;obtain ⟨vc,e1,e2⟩:=Aq hs h1;obtain ⟨us,e3,e4⟩:=sB hs rs Ni h2;exact ⟨vc :: us,by simp only [mapM_cons,Sem.run_bind,e1,Result.andThen_ok,e3,Sem.run_pure],.cons e2 e4⟩
  ·cases h
theorem sD(hs:SR w0 μ s a w){fn:Func}{vs:List AV}(h:dz P s fn.results.toList=some vs):∃ vc,(results fn a.tmps).run P w = .ok vc w/\VR w0 μ (oneOf vs) vc:=by
 obtain ⟨us,h1,h2⟩:=sB hs _ _ h
 have hm:(results fn a.tmps).run P w = .ok (if h:us.toArray.size=1 then us.toArray[0] else .tuple us.toArray) w:=by
  have hr:results fn a.tmps=(do let vs <- fn.results.mapM (xR a.tmps);pure (if h:vs.size=1 then vs[0] else .tuple vs)):=by
   unfold results;congr 2
  rw [hr,<- Array.toArray_toList (xs:=fn.results),mapM_toArray];simp only [Sem.run_bind,map_eq_pure_bind,h1,Result.andThen_ok,Sem.run_pure]
 refine ⟨_,hm,?_⟩
 cases vs with
 |nil=>obtain rfl:=h2.ee;exact cj.tuple .nil
 |cons v vs=>
  obtain ⟨u,Ks,rfl,h3,h4⟩:=h2.cons_inv
  cases vs with
  |nil=>obtain rfl:=h4.ee;simpa [oneOf] using h3
  |cons v2 vs=>
   obtain ⟨u2,Te,rfl,h5,h6⟩:=h4.cons_inv;rw [dif_neg (by simp)];exact cj.tuple h2
theorem iF{D:j8}(hD:uU P D){fn:Func}{μb:Mu}{hb:Heap}{wb:World}{K:Out->Heap->Bool}:∀ (ds:List j6) (Ds:List Deferred) (zW:Option AV) (pv:Option Value) (s:St) (a:Act) (w:World) (μ:Mu),
  uQ w0 μ s.env s.n a.tmps->pI w0 μ ds Ds->Good w0 μ s.h w->wO w0 μ zW pv->Ext μb hb wb μ s.h w->leave P D fn.results.toList K ds zW s=true ->
  Leaves P fn a.tmps (qU w0 μb hb wb K) Ds (jA pv) w
 |[],Ds,zW,pv,s,a,w,μ,he,hd,hg,hp,hx,h=>by
  cases hd;have hs:SR w0 μ ⟨s.env,s.n,[],s.h⟩ ⟨a.tmps,[]⟩ w:=⟨he,.nil,hg⟩
  cases hp with
  |none=>
   simp only [leave] at h;obtain ⟨vs,h1,h2⟩:=cZ h
   have Iv:dz P ⟨s.env,s.n,[],s.h⟩ fn.results.toList=some vs:=by
    rw [<- h1]
    have:∀ rs:List ResultVar,dz P ⟨s.env,s.n,[],s.h⟩ rs=dz P s rs:=by
     intro rs
     induction rs with
     |nil=>rfl
     |cons r rs ih=>simp only [dz,ih];cases r<;>rfl
    exact this _
   obtain ⟨vc,h3,h4⟩:=sD hs Iv;exact ⟨vc,h3,_,_,_,h2,h4,hg,hx⟩
  |some hv=>
   simp only [leave] at h;exact ⟨_,_,_,_,h,rfl,hv,hg,hx⟩
 |d :: ds,Ds,zW,pv,s,a,w,μ,he,hd,hg,hp,hx,h=>by
  cases hd with
  |cons QO ht=>
   obtain ⟨cap,args,rfl,r1,r2⟩:=QO;simp only [leave] at h;split at h
   ·rename_i g nc;obtain ⟨Ar,Js⟩:=hD d.f g nc;have QS:=Js _ _ _ _ h w0 μ w (args++cap) pv hg (r1.append r2) hp;refine ⟨by cases pv<;>simp [jA],.func d.f,cap.toArray,d.f,(args++cap).toArray,rfl,?_,?_⟩
    ·have e:args.toArray++cap.toArray=(args++cap).toArray:=(by simp);simp only [invoke,e,pJ Ar]
    ·refine CallsD.mono QS fun e u' w' hR=>?_
     cases e with
     |returned v=>
      obtain ⟨lT,BC,h',μ',hK,zP,hu,M9,gY⟩:=hR;simp only;rw [hu];exact iF hD ds _ lT BC ⟨s.env,s.n,s.defs,h'⟩ a w' μ' (he.mono gY.mono) (ht.mono gY.mono) M9 zP (hx.trans gY) hK
     |panicked c=>exact hR.elim
     |outgrown=>exact hR.elim
   ·cases h
theorem qW{args:List AV}{vs:List Value}(h:cj w0 μ args vs){n:Nat}(hn:args.length<=n):uQ w0 μ (az args) n (vs.toArray++Array.replicate (n-vs.toArray.size) undef):=by
 have hl:=h.len;refine ⟨by simp;omega,fun t=>?_⟩
 have key:∀ (args:List AV) (t:Nat),az args t=(args[t]?).getD aZ:=by
  intro args
  induction args with
  |nil=>intro t;simp [az]
  |cons x xs ih=>
   intro t
   cases t with
   |zero=>simp [az]
   |succ t=>simp [az,ih]
 rw [key];by_cases ht:t<args.length
 ·have h1:args[t]?=some args[t]:=fc ht;obtain ⟨v,h2,h3⟩:=h.get h1;rw [h1]
  have:(vs.toArray++Array.replicate (n-vs.toArray.size) undef).getD t undef=v:=by
   rw [Array.getD_eq_getD_getElem?,Array.getElem?_append_left (by simp;omega)];simp [h2]
  rw [this];exact h3
 ·rw [getElem?_eq_none (by omega)]
  have:(vs.toArray++Array.replicate (n-vs.toArray.size) undef).getD t undef=undef:=by
   rw [Array.getD_eq_getD_getElem?,Array.getElem?_append_right (by simp;omega),Array.getElem?_replicate];split<;>rfl
  rw [this];exact VR.aZ
def gK(P:Program)(F:xG):Prop:=
 ∀ f g,F f=some g->∀ args h K,g args h K=true->Enters P f/\∀ (w0:World) (μ:Mu) (w:World) (vs:List Value),Good w0 μ h w->cj w0 μ args vs->Calls P f vs.toArray w (qU w0 μ h w K)
theorem kX(hm:P.follows .mixedOrders=true){F:xG}{D:j8}(hF:gK P F)(hD:uU P D):∀ n,di P (l7 P F D n)
 |0=>fun f args h K hh=>by cases hh
 |n+1=>fun f args h K hh=>by
  simp only [l7] at hh;split at hh
  ·rename_i g hg;exact hF f g hg args h K hh
  ·split at hh
   ·cases hh
   ·rename_i fn Da;split at hh
    ·rename_i uN;simp only [and_eq_true,decide_eq_true_eq,bne_iff_ne,ne_eq] at uN;unfold E1 at hh;split at hh
     ·cases hh
     ·rename_i c hb;refine ⟨⟨fn,c,Da,hb,uN.2⟩,fun w0 μ w vs hg hv=>?_⟩;refine calls_of_wp_defers Da hb ?_;refine C9 (w0:=w0) hm (kX hm hF hD n) n c ⟨az args,fn.ntmps,[],h⟩ _ w μ _ _ ⟨qW hv uN.1,.nil,hg⟩ (fun e ex s' a' w' μ' hK hq ei hx=>?_) hh
      cases hq with
      |normal=>exact iF hD _ _ none none s' a' w' μ' ei.env ei.defs ei.fE .none hx hK
      |ret=>exact iF hD _ _ none none s' a' w' μ' ei.env ei.defs ei.fE .none hx hK
      |exit id=>cases hK
      |panic v vc hv=>exact iF hD _ _ (some v) (some vc) s' a' w' μ' ei.env ei.defs ei.fE (.some hv) hx hK
    ·cases hh
end
end Go.AM
namespace Go.AM
open List Nat Bool Option
open Go Go.RowKit
def He:List Entry->List Entry->Bool
 |[],[]=>true
 |a :: as,b :: bs=>AV.beq a.1 b.1&&(AV.beq a.2.1 b.2.1&&(Nat.beq a.2.2 b.2.2&&He as bs))
 |_,_=>false
def Heap.Clean(h:Heap):Prop:=∀ b,h.next<=b->h.get b=none
theorem Heap.jR:Heap.empty.Clean:=fun b _=>Trie.uB b
theorem Heap.sE{h:Heap}(hc:h.Clean)(o:gh):(h.alloc o).Clean:=fun b hb=>by
 simp at hb;rw [Heap.aD,if_neg (by omega)];exact hc b (by omega)
section
variable {P:Program} {w0 w:World} {μ μ':Mu} {h h' h1:Heap}
def Mu.bare(μ:Mu):Mu:=⟨fun _=>Option.none,μ.z⟩
def Mu.nY(μ μ':Mu):Mu:=⟨μ.m,μ'.z⟩
theorem Good.nothing(hg:Good w0 μ h w):Good w0 μ.bare Heap.empty w:=
 ⟨hg.below,Heap.jR,by simp [Mu.bare],by simp [Mu.bare],hg.uC,by simp [Mu.bare],by simp [Mu.bare],by simp [Mu.bare]⟩
theorem Good.Jt(hg:Good w0 μ h w){w':World}(nc:Good w0 μ' h' w')(hx:Ext μ.bare Heap.empty w μ' h' w'):Good w0 (μ.nY μ') h w'/\Ext μ h w (μ.nY μ') h w':=by
 have hf:∀ k,k<w.heap.size->w'.heap[k]?=w.heap[k]?:=fun k hk=>hx.frame k hk (by simp [Mu.bare]);refine ⟨⟨nc.below,hg.clean,hg.fresh,fun b k hb=>?_,nc.uC,fun b k hb=>?_,fun b k o hb ho=>?_,hg.inj⟩,⟨⟨fun _ _ h=>h,hx.mono.uC⟩,fun k hk _=>hf k hk,fun _ _ h=>.inl h,hx.size,dR _,fun _ _ _=>rfl,fun _ _ h=>.inl h,hx.nY⟩⟩
 ·have:=hg.own b k hb;have:=hx.size;omega
 ·show μ'.z k.c=none
  cases hz:μ'.z k.c with
  |none=>rfl
  |some vs=>
   rcases hx.nY _ _ hz with h1|h1
   ·have Iv:μ.z k.c=some vs:=h1;rw [hg.apart b k hb] at Iv;cases Iv
   ·have:=(hg.own b k hb).2;omega
 ·have dw:μ b=some k:=hb;rw [hf _ (hg.own b k dw).2];exact iV.mono (μ:=μ) (μ':=μ.nY μ') ⟨fun _ _ h=>h,hx.mono.uC⟩ (hg.obj b k o dw ho)
def IC(b:Bool):List AV->Heap->(Out->Heap->Bool)->Bool:=fun args h K=>
 match args with
 |[]=>K (.ret (.bool b)) h
 |_=>false
def ID(b:Bool):Out->Heap->Bool
 |.ret v,_=>AV.beq v (.bool b)
 |_,_=>false
theorem As{call:fT}(hs:di P call){f:FuncId}{b:Bool}(he:call f [] Heap.empty (ID b)=true)(args:List AV)(h:Heap)(K:Out->Heap->Bool)(hK:IC b args h K=true) :
  Enters P f/\∀ (w0:World) (μ:Mu) (w:World) (vs:List Value),Good w0 μ h w->cj w0 μ args vs->Calls P f vs.toArray w (qU w0 μ h w K):=by
 obtain ⟨Ar,hc⟩:=hs _ _ _ _ he;refine ⟨Ar,fun w0 μ w vs hg hv=>?_⟩;unfold IC at hK;split at hK
 ·obtain rfl:=hv.ee;refine Calls.mono (hc w0 _ w [] hg.nothing .nil) fun e w' hR=>?_
  cases e with
  |returned vc=>
   obtain ⟨v,h',μ',k1,k2,k3,k4⟩:=hR;obtain rfl:=AV.beq_eq _ _ k1;obtain ⟨g1,g2⟩:=hg.Jt k3 k4;rw [k2.eH];exact ⟨_,h,μ.nY μ',hK,.bool b,g1,g2⟩
  |panicked c=>
   obtain ⟨v,vc,h',μ',k1,_⟩:=hR;cases k1
  |outgrown=>exact hR.elim
 ·cases hK
end
end Go.AM
namespace Go.AM
open List Nat Bool Option
open Go Go.RowKit
section
variable {w0:World} {μ:Mu} {ρ:Nat->Nat}
end
mutual
theorem AV.beq_refl:∀ x:AV,AV.beq x x=true
 |.undef=>rfl
 |.bool a=>by simp [AV.beq]
 |.int k a=>by simp [AV.beq]
 |.str a=>by simp [AV.beq]
 |.jt=>rfl
 |.ptr a i=>by simp [AV.beq]
 |.cS a i=>by simp [AV.beq,AV.iG a]
 |.aE=>rfl
 |.slice b i l s=>by simp [AV.beq]
 |.aL a i l s=>by simp [AV.beq,AV.iG a]
 |.dI=>rfl
 |.map a=>by simp [AV.beq]
 |.j0=>rfl
 |.func f a b=>by simp [AV.beq,AV.iG a,AV.iG b]
 |.j3=>rfl
 |.iface t v=>by simp [AV.beq,AV.beq_refl v]
 |.agg a=>by simp [AV.beq,AV.iG a]
 |.tuple a=>by simp [AV.beq,AV.iG a]
theorem AV.iG:∀ x:List AV,AV.oX x x=true
 |[]=>rfl
 |a :: l=>by simp [AV.oX,AV.beq_refl a,AV.iG l]
end
theorem pT:∀ n:Nat,Nat.beq n n=true
 |0=>rfl
 |n+1=>pT n
end Go.AM
namespace Go.AM
open List Nat Bool Option
def Ln(g1 g2:List AV->Heap->(Out->Heap->Bool)->Bool):List AV->Heap->(Out->Heap->Bool)->Bool:=fun args h K=>g1 args h K||g2 args h K
theorem Ju{g1 g2:List AV->Heap->(Out->Heap->Bool)->Bool}{args:List AV}{h:Heap}{K:Out->Heap->Bool}(hK:Ln g1 g2 args h K=true):g1 args h K=true\/g2 args h K=true:=by
 simpa [Ln] using hK
end Go.AM
namespace Go.AM
open List Nat Bool Option
open Go Go.RowKit
noncomputable section
variable {K:Out->Heap->Bool} {args:List AV} {h:Heap} {f:FuncId} {env:Env} {P:Program}
def Sem(P:Program)(f:FuncId)(args:List AV)(h:Heap)(K:Out->Heap->Bool):Prop:=
 Enters P f/\∀ (w0:World) (μ:Mu) (w:World) (vs:List Value),Good w0 μ h w->cj w0 μ args vs->Calls P f vs.toArray w (qU w0 μ h w K)
theorem qU.mono{w0 w:World}{μ:Mu}{K':Out->Heap->Bool}(hk:∀ o h',K o h'=true->K' o h'=true){e:Ending}{w':World}(hr:qU w0 μ h w K e w'):qU w0 μ h w K' e w':=by
 cases e with
 |returned vc=>obtain ⟨v,h',μ',k1,k2⟩:=hr;exact ⟨v,h',μ',hk _ _ k1,k2⟩
 |panicked c=>obtain ⟨v,vc,h',μ',k1,k2⟩:=hr;exact ⟨v,vc,h',μ',hk _ _ k1,k2⟩
 |outgrown=>exact hr.elim
theorem Sem.mono{P:Program}{f:FuncId}{args:List AV}{h:Heap}{K K':Out->Heap->Bool}(hs:Sem P f args h K)(hk:∀ o h',K o h'=true->K' o h'=true):Sem P f args h K':=
 ⟨hs.1,fun w0 μ w vs hg hv=>(hs.2 w0 μ w vs hg hv).mono fun _ _ hr=>hr.mono hk⟩
def aq(P:Program):fT:=fun f args h K=>@decide (Sem P f args h K) (Classical.propDecidable _)
theorem nN(P:Program):di P (aq P):=fun f args h K hh=>@of_decide_eq_true _ (Classical.propDecidable _) hh
theorem ag(hs:Sem P f args h K):aq P f args h K=true:=@_root_.decide_eq_true _ (Classical.propDecidable _) hs
theorem di.IE{call:fT}(hc:di P call)(hh:call f args h K=true):Sem P f args h K:=hc f args h K hh
theorem gK.IE{F:xG}(hF:gK P F){g:List AV->Heap->(Out->Heap->Bool)->Bool}(hg:F f=some g)(hh:g args h K=true):Sem P f args h K:=hF f g hg args h K hh
def yes(p:Prop):Bool:=@decide p (Classical.propDecidable _)
theorem cw{p:Prop}:yes p=true↔p:=@decide_eq_true_iff p (Classical.propDecidable _)
theorem Db:∃ r:(St->(AX->St->Bool)->Bool)->St->(AX->St->Bool)->Bool,∀ f s K,r f s K=f s K:=⟨fun f s K=>f s K,fun _ _ _=>rfl⟩
def Jv:(St->(AX->St->Bool)->Bool)->St->(AX->St->Bool)->Bool:=Classical.choose Db
theorem Dc(f:St->(AX->St->Bool)->Bool)(s:St)(K:AX->St->Bool):Jv f s K=f s K:=Classical.choose_spec Db f s K
def ox(j:Bool)(b:St->(AX->St->Bool)->Bool)(K:AX->St->Bool):AX->St->Bool
 |.normal,s'=>@Bool.rec (fun _=>Bool) (b s' K) (Jv b s' K) j
 |.exit id,s'=>K (.exit id) s'
 |.ret,s'=>K .ret s'
 |.panic v,s'=>K (.panic v) s'
theorem Au(j:Bool)(b:St->(AX->St->Bool)->Bool)(K:AX->St->Bool)(s:St):ox j b K .normal s=b s K:=by
 cases j
 ·rfl
 ·exact Dc b s K
def ej(id:Nat)(K:AX->St->Bool):AX->St->Bool
 |.normal,s'=>K .normal s'
 |.exit DG,s'=>@Bool.rec (fun _=>Bool) (K (.exit DG) s') (K .normal s') (Nat.beq DG id)
 |.ret,s'=>K .ret s'
 |.panic v,s'=>K (.panic v) s'
def ah(x:AV)(a b:Bool):Bool:=
 match x with
 |.bool t=>@Bool.rec (fun _=>Bool) b a t
 |_=>false
def xS(I:Nat->St->Prop)(n:Nat)(K:AX->St->Bool):AX->St->Bool
 |.normal,s'=>yes (∃ m,m<n/\I m s')
 |.exit id,s'=>K (.exit id) s'
 |.ret,s'=>K .ret s'
 |.panic v,s'=>K (.panic v) s'
def bS(f:St->(AX->St->Bool)->Bool)(s:St)(K:AX->St->Bool):Bool:=
 yes (∃ I:Nat->St->Prop,(∃ n,I n s)/\∀ n s',I n s'->f s' (xS I n K)=true)
def Dd(ops:List Oper)(j:Nat):Option Tmp:=match ops[j]? with|some g=>g.dst|none=>none
def Fw(j:Nat):List Nat->Bool
 |[]=>false
 |k :: ks=>@Bool.rec (fun _=>Bool) (Fw j ks) true (Nat.beq j k)
def fX(P:Program)(call:fT)(ops:List Oper):List Oper->Nat->List Nat->St->(RS->Bool)->Bool
 |[],_,_,s,K=>K (.ok s)
 |o :: rest,i,sk,⟨env,n,defs,h⟩,K=>
  match o.guard with
  |none=>fm o.op P call env defs h fun
   |.ok v defs h=>eC env n o.dst v fun env=>fX P call ops rest (i+1) sk ⟨env,n,defs,h⟩ K
   |.panic v h=>K (.panic v ⟨env,n,defs,h⟩)
  |some (j,want)=>match Dd ops j with
   |none=>false
   |some d=>@Bool.rec (fun _=>Bool)
    (ah (env d)
     (@Bool.rec (fun _=>Bool) (eC (bZ env d (.bool true)) n o.dst aZ fun env=>fX P call ops rest (i+1) (i :: sk) ⟨env,n,defs,h⟩ K)
      (fm o.op P call (bZ env d (.bool true)) defs h fun
       |.ok v defs h=>eC (bZ env d (.bool true)) n o.dst v fun env=>fX P call ops rest (i+1) sk ⟨env,n,defs,h⟩ K
       |.panic v h=>K (.panic v ⟨bZ env d (.bool true),n,defs,h⟩)) want)
     (@Bool.rec (fun _=>Bool) (fm o.op P call (bZ env d (.bool false)) defs h fun
       |.ok v defs h=>eC (bZ env d (.bool false)) n o.dst v fun env=>fX P call ops rest (i+1) sk ⟨env,n,defs,h⟩ K
       |.panic v h=>K (.panic v ⟨bZ env d (.bool false),n,defs,h⟩))
      (eC (bZ env d (.bool false)) n o.dst aZ fun env=>fX P call ops rest (i+1) (i :: sk) ⟨env,n,defs,h⟩ K) want))
    (match env d with
     |.tuple _=>eC env n o.dst aZ fun env=>fX P call ops rest (i+1) (i :: sk) ⟨env,n,defs,h⟩ K
     |_=>false) (Fw j sk)
def bW(P:Program)(call:fT)(ops:List Oper)(ms:List Nat):List (Nat×Oper)->List Read->List Nat->St->(St->Bool)->Bool
 |[],_,_,s,K=>K s
 |p :: rest,lg,sk,⟨env,n,defs,h⟩,K=>
  @Option.rec (Nat×Bool) (fun _=>Bool)
   (match cP p.2.op with
   |.pure=>dY p.2.op P (evalArg env) h fun v _=>eC env n p.2.dst v fun cu=>bW P call ops ms rest lg sk ⟨cu,n,defs,h⟩ K
   |.read=>dY p.2.op P (evalArg env) h fun v _=>eC env n p.2.dst v fun cu=>bW P call ops ms rest (⟨p.1,p.2.op,env,v⟩ :: lg) sk ⟨cu,n,defs,h⟩ K
   |.alloc=>dY p.2.op P (evalArg env) h fun v h'=>eC env n p.2.dst v fun cu=>bW P call ops ms rest lg sk ⟨cu,n,defs,h'⟩ K
   |.Bw=>
    fm p.2.op P call env defs h fun
     |.ok v fU h'=>if fJ P ms p.1 h' lg then eC env n p.2.dst v fun cu=>bW P call ops ms rest lg sk ⟨cu,n,fU,h'⟩ K else false
     |.panic _ _=>false)
   (fun g=>match Dd ops g.1 with
    |none=>false
    |some d=>@Bool.rec (fun _=>Bool)
     (ah (env d)
      (@Bool.rec (fun _=>Bool) (eC (bZ env d (.bool true)) n p.2.dst aZ fun cu=>bW P call ops ms rest lg (p.1 :: sk) ⟨cu,n,defs,h⟩ K)
       (match cP p.2.op with
       |.pure=>dY p.2.op P (evalArg (bZ env d (.bool true))) h fun v _=>eC (bZ env d (.bool true)) n p.2.dst v fun cu=>bW P call ops ms rest lg sk ⟨cu,n,defs,h⟩ K
       |.read=>dY p.2.op P (evalArg (bZ env d (.bool true))) h fun v _=>eC (bZ env d (.bool true)) n p.2.dst v fun cu=>bW P call ops ms rest (⟨p.1,p.2.op,bZ env d (.bool true),v⟩ :: lg) sk ⟨cu,n,defs,h⟩ K
       |.alloc=>dY p.2.op P (evalArg (bZ env d (.bool true))) h fun v h'=>eC (bZ env d (.bool true)) n p.2.dst v fun cu=>bW P call ops ms rest lg sk ⟨cu,n,defs,h'⟩ K
       |.Bw=>
        fm p.2.op P call (bZ env d (.bool true)) defs h fun
         |.ok v fU h'=>if fJ P ms p.1 h' lg then eC (bZ env d (.bool true)) n p.2.dst v fun cu=>bW P call ops ms rest lg sk ⟨cu,n,fU,h'⟩ K else false
         |.panic _ _=>false) g.2)
      (@Bool.rec (fun _=>Bool)
       (match cP p.2.op with
       |.pure=>dY p.2.op P (evalArg (bZ env d (.bool false))) h fun v _=>eC (bZ env d (.bool false)) n p.2.dst v fun cu=>bW P call ops ms rest lg sk ⟨cu,n,defs,h⟩ K
       |.read=>dY p.2.op P (evalArg (bZ env d (.bool false))) h fun v _=>eC (bZ env d (.bool false)) n p.2.dst v fun cu=>bW P call ops ms rest (⟨p.1,p.2.op,bZ env d (.bool false),v⟩ :: lg) sk ⟨cu,n,defs,h⟩ K
       |.alloc=>dY p.2.op P (evalArg (bZ env d (.bool false))) h fun v h'=>eC (bZ env d (.bool false)) n p.2.dst v fun cu=>bW P call ops ms rest lg sk ⟨cu,n,defs,h'⟩ K
       |.Bw=>
        fm p.2.op P call (bZ env d (.bool false)) defs h fun
         |.ok v fU h'=>if fJ P ms p.1 h' lg then eC (bZ env d (.bool false)) n p.2.dst v fun cu=>bW P call ops ms rest lg sk ⟨cu,n,fU,h'⟩ K else false
         |.panic _ _=>false)
       (eC (bZ env d (.bool false)) n p.2.dst aZ fun cu=>bW P call ops ms rest lg (p.1 :: sk) ⟨cu,n,defs,h⟩ K) g.2))
     (match env d with
      |.tuple _=>eC env n p.2.dst aZ fun cu=>bW P call ops ms rest lg (p.1 :: sk) ⟨cu,n,defs,h⟩ K
      |_=>false) (Fw g.1 sk)) p.2.guard
def Nj(K:AX->St->Bool):RS->Bool
 |.ok s'=>K .normal s'
 |.panic v s'=>K (.panic v) s'
def jB(P:Program)(call:fT):Code->St->(AX->St->Bool)->Bool
 |.skip,s,K=>K .normal s
 |.region _ ops draw,s,K=>
  @Bool.rec (fun _=>Bool) (fX P call ops.toList ops.toList 0 [] s (Nj K))
   (af (zV ops.toList) fun p=>bW P call ops.toList p.ms p.L [] [] s fun s'=>K .normal s') draw
 |.seq a b,s,K=>jB P call a s (ox (I7 a b) (jB P call b) K)
 |.cond c a b,s,K=>ah (evalArg s.env c) (jB P call a s K) (jB P call b s K)
 |.block id c,s,K=>jB P call c s (ej id K)
 |.loop c,s,K=>bS (jB P call c) s K
 |.exit id,s,K=>K (.exit id) s
 |.ret,s,K=>K .ret s
 |_,_,_=>false
theorem ng{d:Nat}{v:AV}(h:env d=v):bZ env d v=env:=by
 funext t;rw [kW];by_cases e:t=d
 ·rw [if_pos e,e,h]
 ·rw [if_neg e]
theorem xT{x:AV}{a b:Bool}(h:ah x a b=true):(x = .bool true/\a=true)\/(x = .bool false/\b=true):=by
 unfold ah at h;split at h
 ·rename_i t;cases t
  ·exact .inr ⟨rfl,h⟩
  ·exact .inl ⟨rfl,h⟩
 ·cases h
section
variable {P:Program} {w0 w:World} {μ μ':Mu} {h h':Heap} {s:St} {a:Act}
theorem uV{ops:List Oper}{o:Oper}{j:Nat}{want:Bool}{d:Tmp}(hg:o.guard=some (j,want))(hd:Dd ops j=some d) :
  eW ops o env=(match env d with|.bool b=>some (b==want)|.tuple _=>some false|_=>none):=by
 unfold eW Dd at *;rw [hg];simp only;split at hd
 ·rename_i g hj;rw [hj];simp only [hd];rfl
 ·cases hd
theorem nh{ρ:Operand->AV}{op:Op}{hp:Heap}{K1 K2:AV->Heap->Bool}(hk:∀ v h',K1 v h'=true->K2 v h'=true)(hh:dY op P ρ hp K1=true):dY op P ρ hp K2=true:=by
 have val:∀ {o:Option AV},gw hp K1 o=true->gw hp K2 o=true:=by
  intro o h;cases o with
  |none=>exact h
  |some a=>exact hk _ _ h
 have both:∀ {o:Option (AV×Heap)},nI K1 o=true->nI K2 o=true:=by
  intro o h;cases o with
  |none=>exact h
  |some a=>exact hk _ _ h
 have heap:∀ {o:Option Heap},r9 K1 o=true->r9 K2 o=true:=by
  intro o h;cases o with
  |none=>exact h
  |some a=>exact hk _ _ h
 have bind:∀ {α:Type} {o:Option α} {f g:α->Bool},(∀ a,f a=true->g a=true)->af o f=true->af o g=true:=by
  intro α o f g Hf h;cases o with
  |none=>exact h
  |some a=>exact Hf _ h
 cases op<;>simp only [dY] at hh ⊢<;>try (first|exact hk _ _ hh|exact val hh|exact both hh|exact heap hh|exact bind (fun _ h=>val h) hh|exact bind (fun _ h=>both h) hh|exact bind (fun _ h=>heap h) hh|exact bind (fun _ h=>hk _ _ h) hh|(exfalso;simp at hh;done))
 case buildSlice t n ps=>unfold kQ at hh ⊢;exact bind (fun _ h=>bind (fun _ h=>hk _ _ h) h) hh
 case binOp o t x y u=>
  unfold EZ at hh ⊢;cases o<;>simp only at hh ⊢<;>first|exact val hh|exact bind (fun _ h=>val h) hh
 case makeFunc fn f c=>
  unfold uy at hh ⊢;cases fn<;>simp only at hh ⊢<;>first|exact hk _ _ hh|exact hh
 case makeMap t r=>
  unfold xE at hh ⊢;cases r<;>simp only at hh ⊢<;>first|exact hk _ _ hh|exact hh
 case slice t x lo hi mx=>
  unfold yH at hh ⊢;cases mx<;>simp only at hh ⊢<;>first|exact bind (fun _ h=>val h) hh|exact hh
 case call c=>
  obtain ⟨qP,args,ts⟩:=c;unfold l6 at hh ⊢
  cases qP with
  |value f=>exact hh
  |invoke r m=>exact hh
  |builtin b=>
   simp only at hh ⊢;cases b<;>simp only [xF,BM,false_eq_true] at hh ⊢
   case append=>
    unfold qM at hh ⊢;split at hh
    ·exact bind (fun _ h=>both h) hh
    ·exact hh
   case copy=>
    unfold yI at hh ⊢;split at hh
    ·exact bind (fun _ h=>both h) hh
    ·exact hh
   case len=>
    unfold BL at hh ⊢;split at hh
    ·exact bind (fun _ h=>val h) hh
    ·exact hh
   case delete=>
    unfold qN at hh ⊢;split at hh
    ·exact bind (fun _ h=>heap h) hh
    ·exact hh
   case min=>
    unfold mV at hh ⊢;split at hh
    ·exact val hh
    ·exact hh
   case max=>
    unfold mV at hh ⊢;split at hh
    ·exact val hh
    ·exact hh
theorem Av{op:Op}{defs:List j6}{hp:Heap}{K1 K2:R->Bool}(hk:∀ r,K1 r=true->K2 r=true)(hh:fm op P (aq P) env defs hp K1=true):fm op P (aq P) env defs hp K2=true:=by
 have plain:∀ {op:Op},jO op P (aq P) env defs hp K1=true->jO op P (aq P) env defs hp K2=true:=fun h=>nh (fun _ _ h=>hk _ h) h;cases op<;>simp only [fm] at hh ⊢<;>try exact plain hh
 case call c=>
  obtain ⟨qP,args,ts⟩:=c
  cases qP with
  |builtin b=>exact plain hh
  |invoke r m=>exact plain hh
  |value f=>
   simp only [nW,tT] at hh ⊢;split at hh
   ·refine ag ((nN P).IE hh |>.mono fun o h' h=>?_);cases o<;>exact hk _ h
   ·exact hh
 case defer c=>
  obtain ⟨qP,args,ts⟩:=c
  cases qP with
  |builtin b=>exact hh
  |invoke r m=>exact hh
  |value f=>
   simp only [oZ] at hh ⊢;split at hh
   ·exact hk _ hh
   ·exact hh
 case panic x=>
  simp only [o8] at hh ⊢;split at hh
  ·exact hk _ hh
  ·exact hh
 case next x b=>
  simp only [yJ] at hh ⊢;generalize uq b (evalArg env x) hp=o at hh ⊢
  cases o with
  |none=>exact hh
  |some L=>
   simp only [af] at hh ⊢
   induction L with
   |nil=>rfl
   |cons p L ih=>
    simp only [jg,and_eq_true] at hh ⊢;exact ⟨hk _ hh.1,ih hh.2⟩
theorem kD{n:Nat}{dst:Option Tmp}{v:AV}{k1 k2:Env->Bool}(hk:∀ e,k1 e=true->k2 e=true)(hh:eC env n dst v k1=true):eC env n dst v k2=true:=by
 cases dst with
 |none=>exact hk _ hh
 |some d=>
  simp only [eC] at hh ⊢
  cases hb:ble (d+1) n with
  |false=>rw [hb] at hh;cases hh
  |true=>rw [hb] at hh;exact hk _ hh
theorem gi{ops:List Oper}{ms:List Nat}{K:St->Bool}:∀ (L:List (Nat×Oper)) (lg:List Read) (sk:List Nat) (s:St),bW P (aq P) ops ms L lg sk s K=true->cY P (aq P) ops ms L lg s K=true
 |[],lg,sk,s,hh=>hh
 |p :: rest,lg,sk,⟨env,n,defs,hp⟩,hh=>by
  have goes:(match cP p.2.op with
   |.pure=>dY p.2.op P (evalArg env) hp fun v _=>eC env n p.2.dst v fun cu=>bW P (aq P) ops ms rest lg sk ⟨cu,n,defs,hp⟩ K
   |.read=>dY p.2.op P (evalArg env) hp fun v _=>eC env n p.2.dst v fun cu=>bW P (aq P) ops ms rest (⟨p.1,p.2.op,env,v⟩ :: lg) sk ⟨cu,n,defs,hp⟩ K
   |.alloc=>dY p.2.op P (evalArg env) hp fun v h'=>eC env n p.2.dst v fun cu=>bW P (aq P) ops ms rest lg sk ⟨cu,n,defs,h'⟩ K
   |.Bw=>
    fm p.2.op P (aq P) env defs hp fun
     |.ok v fU h'=>if fJ P ms p.1 h' lg then eC env n p.2.dst v fun cu=>bW P (aq P) ops ms rest lg sk ⟨cu,n,fU,h'⟩ K else false
     |.panic _ _=>false)=true->(match cP p.2.op with
   |.pure=>dY p.2.op P (evalArg env) hp fun v _=>eC env n p.2.dst v fun cu=>cY P (aq P) ops ms rest lg ⟨cu,n,defs,hp⟩ K
   |.read=>dY p.2.op P (evalArg env) hp fun v _=>eC env n p.2.dst v fun cu=>cY P (aq P) ops ms rest (⟨p.1,p.2.op,env,v⟩ :: lg) ⟨cu,n,defs,hp⟩ K
   |.alloc=>dY p.2.op P (evalArg env) hp fun v h'=>eC env n p.2.dst v fun cu=>cY P (aq P) ops ms rest lg ⟨cu,n,defs,h'⟩ K
   |.Bw=>
    fm p.2.op P (aq P) env defs hp fun
     |.ok v fU h'=>if fJ P ms p.1 h' lg then eC env n p.2.dst v fun cu=>cY P (aq P) ops ms rest lg ⟨cu,n,fU,h'⟩ K else false
     |.panic _ _=>false)=true:=by
   intro h;cases hk:cP p.2.op<;>rw [hk] at h<;>simp only at h ⊢
   ·exact nh (fun v h' h=>kD (fun e h=>gi rest _ _ _ h) h) h
   ·exact nh (fun v h' h=>kD (fun e h=>gi rest _ _ _ h) h) h
   ·exact nh (fun v h' h=>kD (fun e h=>gi rest _ _ _ h) h) h
   ·refine Av (fun r h=>?_) h
    cases r with
    |ok v fU h'=>
     simp only at h ⊢;split at h
     ·rename_i hs;rw [if_pos hs];exact kD (fun e h=>gi rest _ _ _ h) h
     ·cases h
    |panic v h'=>cases h
  have uW:∀ OV,(eC env n p.2.dst aZ fun cu=>bW P (aq P) ops ms rest lg OV ⟨cu,n,defs,hp⟩ K)=true->(eC env n p.2.dst aZ fun cu=>cY P (aq P) ops ms rest lg ⟨cu,n,defs,hp⟩ K)=true:=
   fun OV h=>kD (fun e h=>gi rest _ _ _ h) h
  simp only [bW] at hh;simp only [cY]
  cases hg:p.2.guard with
  |none=>
   rw [hg] at hh;have hw:eW ops p.2 env=some true:=by unfold eW;rw [hg]
   rw [hw];exact goes hh
  |some g=>
   obtain ⟨j,want⟩:=g;rw [hg] at hh;simp only at hh;split at hh
   ·cases hh
   ·rename_i d hd;have Ca:=uV (env:=env) hg hd
    cases hm:Fw j sk with
    |true=>
     rw [hm] at hh;simp only at hh;split at hh
     ·rename_i vs hv;rw [hv] at Ca;rw [Ca];exact uW _ hh
     ·cases hh
    |false=>
     rw [hm] at hh;simp only at hh;rcases xT hh with ⟨hv,hh⟩|⟨hv,hh⟩
     ·rw [hv] at Ca;rw [ng hv] at hh;rw [Ca]
      cases want with
      |true=>exact goes hh
      |false=>exact uW _ hh
     ·rw [hv] at Ca;rw [ng hv] at hh;rw [Ca]
      cases want with
      |true=>exact uW _ hh
      |false=>exact goes hh
theorem yY{call:fT}(hc:di P call){ops:Array Oper}{K:RS->Bool}{Q:Exit->Act->World->Prop}:∀ (l:List Oper) (i:Nat) (sk:List Nat) (s:St) (a:Act) (w:World) (μ:Mu),(∀ j o,l[j]?=some o->ops[i+j]?=some o) ->
  SR w0 μ s a w->(hl:qV w0 μ s.h w K Q)->fX P call ops.toList l i sk s K=true->wpOps P ops Q (range' i l.length) a w
 |[],i,sk,s,a,w,μ,hi,hs,hl,h=>by
  simp only [length_nil,range'_zero,wpOps];exact hl.ok _ _ _ _ h hs (Ext.refl _ _ _)
 |o :: rest,i,sk,s,a,w,μ,hi,hs,hl,h=>by
  have Lf:ops[i]?=some o:=by simpa using hi 0 o rfl
  obtain ⟨env,n,defs,hp⟩:=s;simp only [length_cons,range'_succ,wpOps,Lf]
  have sW:∀ j o',rest[j]?=some o'->ops[i+1+j]?=some o':=fun j o' hj=>by
   have:=hi (j+1) o' (by simpa using hj)
   rwa [show i+1+j=i+(j+1) by omega]
  have goes:eW ops.toList o env=some true->(fm o.op P call env defs hp fun
       |.ok v defs h=>eC env n o.dst v fun env=>fX P call ops.toList rest (i+1) sk ⟨env,n,defs,h⟩ K
       |.panic v h=>K (.panic v ⟨env,n,defs,h⟩))=true ->
    (if Region.wanted o (yielded ops a.tmps) then o.wp P a w (wpOps P ops Q (range' (i+1) rest.length)) Q\/(o.asks P a w/\LetsOut Q) else wpOps P ops Q (range' (i+1) rest.length) (a.put o.dst undef) w):=by
   intro hw hh;rw [gJ hs.env hw,if_pos rfl];refine .inl (uc hs hc ⟨fun v fU h' a' w' μ' hK ei hx=>?_,fun v vc h' w' μ' hK hv ei hx=>?_⟩ hh)
   ·exact yY hc rest (i+1) sk _ a' w' μ' sW ei (hl.after hx) (gF hK)
   ·exact hl.panic v vc _ a w' μ' hK hv ei hx
  have uW:eW ops.toList o env=some false->(eC env n o.dst aZ fun env=>fX P call ops.toList rest (i+1) (i :: sk) ⟨env,n,defs,hp⟩ K)=true ->
    (if Region.wanted o (yielded ops a.tmps) then o.wp P a w (wpOps P ops Q (range' (i+1) rest.length)) Q\/(o.asks P a w/\LetsOut Q) else wpOps P ops Q (range' (i+1) rest.length) (a.put o.dst undef) w):=by
   intro hw hh;rw [gJ hs.env hw];simp only [false_eq_true,if_false];have ei:=hs.left o.dst (h':=hp) VR.aZ hs.fE (Mu.le.refl μ);exact yY hc rest (i+1) (i :: sk) ⟨iq env n o.dst aZ,n,defs,hp⟩ _ w μ sW ei hl (gF hh)
  simp only [fX] at h;split at h
  ·rename_i hg;exact goes (by unfold eW;rw [hg]) h
  ·rename_i j want hg;split at h
   ·cases h
   ·rename_i d hd;have Ca:=uV (env:=env) hg hd
    cases hm:Fw j sk with
    |true=>
     rw [hm] at h;simp only at h;split at h
     ·rename_i vs hv;rw [hv] at Ca;exact uW Ca h
     ·cases h
    |false=>
     rw [hm] at h;simp only at h;rcases xT h with ⟨hv,h⟩|⟨hv,h⟩
     ·rw [hv] at Ca;rw [ng hv] at h
      cases want with
      |true=>exact goes Ca h
      |false=>exact uW Ca h
     ·rw [hv] at Ca;rw [ng hv] at h
      cases want with
      |true=>exact uW Ca h
      |false=>exact goes Ca h
theorem Fx(hm:P.follows .mixedOrders=true):∀ (c:Code) (s:St) (a:Act) (w:World) (μ:Mu) (K:AX->St->Bool) (Q:Exit->Act->World->Prop),SR w0 μ s a w ->
  ou w0 μ s.h w K Q->jB P (aq P) c s K=true->c.wp P Q a w:=by
 have hc:=nN P;intro c
 induction c with
 |skip=>intro s a w μ K Q hs hl h;exact wp_skip (hl _ _ _ _ _ _ h .normal hs (Ext.refl _ _ _))
 |region id ops draw=>
  intro s a w μ K Q hs hl h;simp only [jB] at h
  cases draw with
  |true=>
   simp only at h;obtain ⟨Ao,hp,h⟩:=cZ h;exact C8 hm hc hp hs (fun s' a' w' μ' hK ei hx=>hl _ _ _ _ _ _ hK .normal ei hx) (gi _ _ _ _ h)
  |false=>
   simp only at h;refine wp_region ?_;have:=yY (Q:=Q) hc ops.toList 0 [] s a w μ (fun j o hj=>by rw [Nat.zero_add];simpa using hj) hs ⟨fun s' a' w' μ' hK ei hx=>hl _ _ _ _ _ _ hK .normal ei hx,fun v vc s' a' w' μ' hK hv ei hx=>hl _ _ _ _ _ _ hK (.panic v vc hv) ei hx⟩ h;rw [range_eq_range'];simpa using this
 |seq x y Jq Jr=>
  intro s a w μ K Q hs hl h;simp only [jB] at h;refine wp_seq (Jq s a w μ _ _ hs (fun e ex s' a' w' μ' hK hq ei hx=>?_) h)
  cases hq with
  |normal=>exact Jr s' a' w' μ' K Q ei (hl.after hx) (by rw [Au] at hK;exact hK)
  |exit id=>exact hl _ _ _ _ _ _ hK (.exit id) ei hx
  |ret=>exact hl _ _ _ _ _ _ hK .ret ei hx
  |panic v vc hv=>exact hl _ _ _ _ _ _ hK (.panic v vc hv) ei hx
 |cond c x y Jq Jr=>
  intro s a w μ K Q hs hl h;simp only [jB,ah] at h;have hcv:=hs.eval c;split at h
  ·rename_i t e;rw [e] at hcv
   cases t with
   |true=>exact wp_cond_true hcv.eH (Jq s a w μ K Q hs hl h)
   |false=>exact wp_cond_false hcv.eH (Jr s a w μ K Q hs hl h)
  ·cases h
 |block id c ih=>
  intro s a w μ K Q hs hl h;simp only [jB] at h;refine wp_block (ih s a w μ _ _ hs (fun e ex s' a' w' μ' hK hq ei hx=>?_) h)
  cases hq with
  |normal=>exact hl _ _ _ _ _ _ hK .normal ei hx
  |exit DG=>
   simp only [Exit.inBlock];simp only [ej] at hK;by_cases e:DG=id
   ·subst e;rw [pT] at hK;rw [if_pos rfl];exact hl _ _ _ _ _ _ hK .normal ei hx
   ·rw [if_neg e]
    have hb:Nat.beq DG id=false:=by
     cases hq:Nat.beq DG id with
     |false=>rfl
     |true=>exact absurd (eq_of_beq_eq_true hq) e
    rw [hb] at hK;exact hl _ _ _ _ _ _ hK (.exit DG) ei hx
  |ret=>exact hl _ _ _ _ _ _ hK .ret ei hx
  |panic v vc hv=>exact hl _ _ _ _ _ _ hK (.panic v vc hv) ei hx
 |loop c ih=>
  intro s a w μ K Q hs hl h;simp only [jB,bS] at h;obtain ⟨I,⟨n0,QT⟩,mw⟩:=cw.1 h;refine wp_loop_rounds (n0+1) ?_
  have key:∀ (N n:Nat) (s:St) (a:Act) (w:World) (μ:Mu),SR w0 μ s a w->ou w0 μ s.h w K Q->I n s->n<N->Code.rounds P c Q N a w:=by
   intro N
   induction N with
   |zero=>intro n s a w μ hs hl hi hn;omega
   |succ N Ng=>
    intro n s a w μ hs hl hi hn;rw [rounds_succ];refine ih s a w μ _ _ hs (fun e ex s' a' w' μ' hK hq ei hx=>?_) (mw n s hi)
    cases hq with
    |normal=>
     obtain ⟨m,QC,QU⟩:=cw.1 hK;exact Ng m s' a' w' μ' ei (hl.after hx) QU (by omega)
    |exit id=>exact hl _ _ _ _ _ _ hK (.exit id) ei hx
    |ret=>exact hl _ _ _ _ _ _ hK .ret ei hx
    |panic v vc hv=>exact hl _ _ _ _ _ _ hK (.panic v vc hv) ei hx
  exact key (n0+1) n0 s a w μ hs hl QT (by omega)
 |exit id=>intro s a w μ K Q hs hl h;exact wp_exit (hl _ _ _ _ _ _ h (.exit id) hs (Ext.refl _ _ _))
 |ret=>intro s a w μ K Q hs hl h;exact wp_ret (hl _ _ _ _ _ _ h .ret hs (Ext.refl _ _ _))
 |_=>intros;rename_i h;simp [jB] at h
def OW:j8:=fun _=>none
theorem D2(P:Program):uU P OW:=fun f g h=>by cases h
theorem Fy(hm:P.follows .mixedOrders=true){D:j8}(hD:uU P D){fn:Func}{c:Code}(Da:P.funcs[f]?=some fn)(hb:fn.body=some c)(FA:fn.name≠ "runtime.NumGoroutine")
  (hlen:args.length<=fn.ntmps)
  (hh:jB P (aq P) c ⟨az args,fn.ntmps,[],h⟩ (BP P D fn.results.toList K)=true):Sem P f args h K:=by
 refine ⟨⟨fn,c,Da,hb,FA⟩,fun w0 μ w vs hg hv=>?_⟩;refine calls_of_wp_defers Da hb ?_;refine Fx (w0:=w0) hm c ⟨az args,fn.ntmps,[],h⟩ _ w μ _ _ ⟨qW hv hlen,.nil,hg⟩ (fun e ex s' a' w' μ' hK hq ei hx=>?_) hh
 cases hq with
 |normal=>exact iF hD _ _ none none s' a' w' μ' ei.env ei.defs ei.fE .none hx hK
 |ret=>exact iF hD _ _ none none s' a' w' μ' ei.env ei.defs ei.fE .none hx hK
 |exit id=>cases hK
 |panic v vc hv=>exact iF hD _ _ (some v) (some vc) s' a' w' μ' ei.env ei.defs ei.fE (.some hv) hx hK
end
end
end Go.AM
namespace Go.AM
open List Nat Bool Option
open Go Go.RowKit
noncomputable section
variable {old:Bool} {h:Heap}
def AV.scalar:AV->Bool
 |.undef|.bool _|.int _ _|.str _|.jt|.aE|.dI|.j0|.j3=>true
 |_=>false
mutual
def AV.pure:AV->Bool
 |.ptr _ _|.slice _ _ _ _|.map _=>false
 |.cS cs _=>AV.bQ cs
 |.aL cs _ _ _=>AV.bQ cs
 |.func _ a b=>AV.bQ a&&AV.bQ b
 |.iface _ v=>AV.pure v
 |.agg cs=>AV.bQ cs
 |.tuple cs=>AV.bQ cs
 |_=>true
def AV.bQ:List AV->Bool
 |[]=>true
 |a :: as=>AV.pure a&&AV.bQ as
end
theorem AV.gj:∀ {l:List AV},AV.bQ l=true->∀ {i:Nat} {x:AV},l[i]?=some x->x.pure=true
 |a :: l,h,0,x,e=>by simp [AV.bQ] at h;simp at e;subst e;exact h.1
 |a :: l,h,i+1,x,e=>by simp [AV.bQ] at h;exact AV.gj h.2 (by simpa using e)
 |[],h,i,x,e=>by simp at e
theorem AV.yZ{l m:List AV}(h:AV.bQ l=true)(k:AV.bQ m=true):AV.bQ (l++m)=true:=by
 induction l with
 |nil=>exact k
 |cons a l ih=>simp only [AV.bQ,and_eq_true,cons_append] at h ⊢;exact ⟨h.1,ih h.2⟩
inductive Fz (old:Bool) (h:Heap):AV->AV->Prop where
 |scalar (x:AV) (hx:x.scalar=true):Fz old h x x
 |cS (cs jx:List AV) (off:Nat) (ho:old=true) (hl:cs.length=jx.length) (hr:∀ (i:Nat) (x y:AV),cs[i]?=some x->jx[i]?=some y->Fz old h x y):Fz old h (.cS cs off) (.cS jx off)
 |aL (cs jx:List AV) (off len sz:Nat) (ho:old=true) (hl:cs.length=jx.length) (hr:∀ (i:Nat) (x y:AV),cs[i]?=some x->jx[i]?=some y->Fz old h x y):Fz old h (.aL cs off len sz) (.aL jx off len sz)
 |ptr (b off:Nat) (cs jx:List AV) (hb:h.get b=some (.cells cs)) (hl:cs.length=jx.length) (hr:∀ (i:Nat) (x y:AV),cs[i]?=some x->jx[i]?=some y->Fz old h x y):Fz old h (.ptr b off) (.cS jx off)
 |slice (b off len sz:Nat) (cs jx:List AV) (hb:h.get b=some (.cells cs)) (hl:cs.length=jx.length) (hr:∀ (i:Nat) (x y:AV),cs[i]?=some x->jx[i]?=some y->Fz old h x y):Fz old h (.slice b off len sz) (.aL jx off len sz)
 |func (f:FuncId) (xs ys Lo Kw:List AV) (h1:xs.length=Lo.length) (h2:ys.length=Kw.length) (r1:∀ (i:Nat) (x y:AV),xs[i]?=some x->Lo[i]?=some y->Fz old h x y)
   (r2:∀ (i:Nat) (x y:AV),ys[i]?=some x->Kw[i]?=some y->Fz old h x y):Fz old h (.func f xs ys) (.func f Lo Kw)
 |iface (t:TypeId) (x y:AV) (hr:Fz old h x y):Fz old h (.iface t x) (.iface t y)
 |agg (cs jx:List AV) (hl:cs.length=jx.length) (hr:∀ (i:Nat) (x y:AV),cs[i]?=some x->jx[i]?=some y->Fz old h x y):Fz old h (.agg cs) (.agg jx)
 |tuple (cs jx:List AV) (hl:cs.length=jx.length) (hr:∀ (i:Nat) (x y:AV),cs[i]?=some x->jx[i]?=some y->Fz old h x y):Fz old h (.tuple cs) (.tuple jx)
structure kf (old:Bool) (h:Heap) (cs jx:List AV):Prop where
 len:cs.length=jx.length
 rel:∀ (i:Nat) (x y:AV),cs[i]?=some x->jx[i]?=some y->Fz old h x y
theorem kf.nil:kf old h [] []:=⟨rfl,by simp⟩
theorem kf.cons{x y:AV}{xs ys:List AV}(h1:Fz old h x y)(h2:kf old h xs ys):kf old h (x :: xs) (y :: ys):=
 ⟨by simp [h2.len],fun i u v a b=>by
  cases i with
  |zero=>simp at a b;subst a;subst b;exact h1
  |succ i=>simp at a b;exact h2.rel i u v a b⟩
theorem kf.append{xs ys us vs:List AV}(h1:kf old h xs us)(h2:kf old h ys vs):kf old h (xs++ys) (us++vs):=by
 induction xs generalizing us with
 |nil=>cases us with
  |nil=>exact h2
  |cons u us=>exact absurd h1.len (by simp)
 |cons x xs ih=>cases us with
  |nil=>exact absurd h1.len (by simp)
  |cons u us=>exact .cons (h1.rel 0 x u rfl rfl) (ih ⟨by simpa using h1.len,fun i a b p q=>h1.rel (i+1) a b (by simpa using p) (by simpa using q)⟩)
mutual
theorem Fz.dF{h:Heap}:∀ {x:AV},x.pure=true->Fz true h x x
 |.undef,_=>.scalar _ rfl
 |.bool _,_=>.scalar _ rfl
 |.int _ _,_=>.scalar _ rfl
 |.str _,_=>.scalar _ rfl
 |.jt,_=>.scalar _ rfl
 |.aE,_=>.scalar _ rfl
 |.dI,_=>.scalar _ rfl
 |.j0,_=>.scalar _ rfl
 |.j3,_=>.scalar _ rfl
 |.cS cs off,hp=>.cS cs cs off rfl rfl (kf.dF hp).rel
 |.aL cs off len sz,hp=>.aL cs cs off len sz rfl rfl (kf.dF hp).rel
 |.func f a b,hp=>by
  simp only [AV.pure,and_eq_true] at hp;exact .func f a b a b rfl rfl (kf.dF hp.1).rel (kf.dF hp.2).rel
 |.iface t x,hp=>.iface t x x (Fz.dF hp)
 |.agg cs,hp=>.agg cs cs rfl (kf.dF hp).rel
 |.tuple cs,hp=>.tuple cs cs rfl (kf.dF hp).rel
 |.ptr _ _,hp=>by cases hp
 |.slice _ _ _ _,hp=>by cases hp
 |.map _,hp=>by cases hp
theorem kf.dF{h:Heap}:∀ {l:List AV},AV.bQ l=true->kf true h l l
 |[],_=>.nil
 |a :: l,hp=>by
  simp only [AV.bQ,and_eq_true] at hp;exact .cons (Fz.dF hp.1) (kf.dF hp.2)
end
section
variable {P:Program} {w0 w w':World} {μ μ':Mu} {h h':Heap}
def Mu.BD(μ:Mu)(w:World)(c:Nat):Option (List Value):=
 match μ.z c with
 |some vs=>some vs
 |none=>@ite _ (∃ b k,μ b=some k/\k.c=c) (Classical.propDecidable _) (match w.heap[c]? with|some (.cells arr _ _)=>some arr.toList|_=>none) none
theorem Mu.pU{c:Nat}{vs:List Value}(hz:μ.z c=some vs):μ.BD w c=some vs:=by unfold Mu.BD;rw [hz]
theorem Mu.Hg{b:Nat}{k:yM}(hb:μ b=some k)(hz:μ.z k.c=none){arr:Array Value}{e:TypeId}{fr:Nat×Nat}(hc:w.heap[k.c]?=some (.cells arr e fr)):μ.BD w k.c=some arr.toList:=by
 unfold Mu.BD;rw [hz];simp only;rw [if_pos ⟨b,k,hb,rfl⟩,hc]
theorem Mu.De{c:Nat}{vs:List Value}(h:μ.BD w c=some vs):μ.z c=some vs\/((∃ b k,μ b=some k/\k.c=c)/\∃ arr e fr,w.heap[c]?=some (.cells arr e fr)/\arr.toList=vs):=by
 unfold Mu.BD at h;split at h
 ·rename_i Ni hz;cases h;exact .inl hz
 ·split at h
  ·rename_i hex;split at h
   ·rename_i arr e fr hc;cases h;exact .inr ⟨hex,arr,e,fr,hc,rfl⟩
   ·cases h
  ·cases h
def Mu.y5(μ μ':Mu)(w w':World):Mu:=⟨μ.m,fun c=>@ite _ ((∃ vs,μ.z c=some vs)\/w.heap.size<=c) (Classical.propDecidable _) (μ'.BD w' c) none⟩
theorem xU(nc:Good w0 μ' h' w'){ν:Mu}(FB:∀ b k,μ' b=some k->∀ vs,μ'.BD w' k.c=some vs->ν.z k.c=some vs)(hold:old=true->∀ c vs,μ'.z c=some vs->ν.z c=some vs){x y:AV}(hf:Fz old h' x y):∀ v,VR w0 μ' x v->VR w0 ν y v:=by
 have Hh:∀ b k cs,μ' b=some k->h'.get b=some (.cells cs)->∃ vs:List Value,vs.length=cs.length/\(ν.z k.c).isSome=true/\(∀ (i:Nat) (v:Value),vs[i]?=some v->ν.cell k.c (k.base+i)=some v) /\
   ∀ (i:Nat) (x:AV) (v:Value),cs[i]?=some x->vs[i]?=some v->VR w0 μ' x v:=by
  intro b k cs hb ho;obtain ⟨arr,e,fr,h1,h2,h3,h4,h5⟩:=nc.obj b k _ hb ho;have hz:ν.z k.c=some arr.toList:=FB b k hb _ (Mu.Hg hb (nc.apart b k hb) h1);refine ⟨(arr.toList.drop k.base).take cs.length,by simp;omega,by rw [hz];rfl,fun i v hi=>?_,fun i x v hx hi=>?_⟩
  ·rw [getElem?_take] at hi;split at hi
   ·rw [getElem?_drop] at hi;unfold Mu.cell;rw [hz];exact hi
   ·cases hi
  ·obtain ⟨v',FC,Jw⟩:=h5 i x hx;rw [getElem?_take] at hi;split at hi
   ·rw [getElem?_drop,Array.getElem?_toList,FC] at hi;cases hi;exact Jw
   ·cases hi
 have rows:∀ {cs jx:List AV} {vs:List Value},cs.length=jx.length->cs.length=vs.length->(∀ (i:Nat) (x y:AV),cs[i]?=some x->jx[i]?=some y->∀ v,VR w0 μ' x v->VR w0 ν y v) ->
   (∀ (i:Nat) (x:AV) (v:Value),cs[i]?=some x->vs[i]?=some v->VR w0 μ' x v)->∀ (i:Nat) (y:AV) (v:Value),jx[i]?=some y->vs[i]?=some v->VR w0 ν y v:=by
  intro cs jx vs hl Lq ih hr i y v hy hv;have hi:i<jx.length:=(fR.1 hy).1;have hx:cs[i]?=some (cs[i]'(by omega)):=fc (by omega);exact ih i _ y hx hy v (hr i _ v hx hv)
 induction hf with
 |scalar x hx=>
  intro v hv;cases hv<;>simp only [AV.scalar,false_eq_true,reduceCtorEq] at hx<;>constructor
 |cS cs jx off ho hl hr ih=>
  intro v hv;cases hv;rename_i g o vs hg hv uM ua;refine .cS jx off g o vs ?_ (by omega) (fun i v hi=>?_) (rows hl uM ih ua)
  ·trivial
  ·have:=hv i v hi;unfold Mu.cell at this ⊢;obtain ⟨zs,hz,Cb⟩:=bind_eq_some_iff.1 this;rw [hold ho _ _ hz];exact Cb
 |aL cs jx off len sz ho hl hr ih=>
  intro v hv;cases hv;rename_i cap a g o vs hg hv uM ua ha hc;refine .aL jx off len sz cap a g o vs ?_ (by omega) (fun i v hi=>?_) (rows hl uM ih ua) hc ha
  ·trivial
  ·have:=hv i v hi;unfold Mu.cell at this ⊢;obtain ⟨zs,hz,Cb⟩:=bind_eq_some_iff.1 this;rw [hold ho _ _ hz];exact Cb
 |ptr b off cs jx hb hl hr ih=>
  intro v hv;cases hv;rename_i k hk;obtain ⟨vs,q1,q2,q3,q4⟩:=Hh b k cs hk hb;exact .cS jx off k.c k.base vs trivial (by omega) q3 (rows hl (by omega) ih q4)
 |slice b off len sz cs jx hb hl hr ih=>
  intro v hv;cases hv;rename_i cap a k hk hc ha;obtain ⟨vs,q1,q2,q3,q4⟩:=Hh b k cs hk hb;exact .aL jx off len sz cap a k.c k.base vs trivial (by omega) q3 (rows hl (by omega) ih q4) hc (fun h0=>(ha h0).1)
 |func f xs ys Lo Kw h1 h2 r1 r2 KR KS=>
  intro v hv;cases hv;rename_i us vs g1 q1 g2 q2;exact .func f Lo Kw us vs (by omega) (by omega) (rows h1 g1 KR q1) (rows h2 g2 KS q2)
 |iface t x y hr ih=>
  intro v hv;cases hv;rename_i v hv;exact .iface t y v (ih v hv)
 |agg cs jx hl hr ih=>
  intro v hv;cases hv;rename_i vs uM ua;exact .agg jx vs (by omega) (rows hl uM ih ua)
 |tuple cs jx hl hr ih=>
  intro v hv;cases hv;rename_i vs uM ua;exact .tuple jx vs (by omega) (rows hl uM ih ua)
theorem qX{ν:Mu}(hν:ν.m=fun _=>none)(hg:Good w0 μ h w)(nc:Good w0 μ' h' w')(hx:Ext ν Heap.empty w μ' h' w')(hz:∀ c vs,μ.z c=some vs->ν.z c=some vs) :
  Good w0 (μ.y5 μ' w w') h w'/\Ext μ h w (μ.y5 μ' w w') h w':=by
 have hf:∀ k,k<w.heap.size->w'.heap[k]?=w.heap[k]?:=fun k hk=>hx.frame k hk (by simp [hν])
 have jL:∀ c vs,(μ.y5 μ' w w').z c=some vs->μ.z c=some vs\/w.heap.size<=c:=by
  intro c vs hc;have zR:@ite _ ((∃ vs,μ.z c=some vs)\/w.heap.size<=c) (Classical.propDecidable _) (μ'.BD w' c) none=some vs:=hc;split at zR
  ·rename_i Nk;rcases Nk with ⟨Ni,hv⟩|GB
   ·rw [Mu.pU (hx.mono.uC _ _ (hz _ _ hv))] at zR;cases zR;exact .inl hv
   ·exact .inr GB
  ·cases zR
 have Lr:∀ c vs,μ.z c=some vs->(μ.y5 μ' w w').z c=some vs:=by
  intro c vs hv;show @ite _ ((∃ vs,μ.z c=some vs)\/w.heap.size<=c) (Classical.propDecidable _) (μ'.BD w' c) none=some vs;rw [if_pos (.inl ⟨vs,hv⟩)];exact Mu.pU (hx.mono.uC _ _ (hz _ _ hv))
 have hle:μ.le (μ.y5 μ' w w'):=⟨fun _ _ h=>h,Lr⟩
 refine ⟨⟨nc.below,hg.clean,hg.fresh,fun b k hb=>?_,fun c vs hc=>?_,fun b k hb=>?_,fun b k o hb ho=>?_,hg.inj⟩,⟨hle,fun k hk _=>hf k hk,fun _ _ h=>.inl h,hx.size,dR _,fun _ _ _=>rfl,fun _ _ h=>.inl h,jL⟩⟩
 ·have:=hg.own b k hb;have:=hx.size;omega
 ·have zR:@ite _ ((∃ vs,μ.z c=some vs)\/w.heap.size<=c) (Classical.propDecidable _) (μ'.BD w' c) none=some vs:=hc;split at zR
  ·rcases Mu.De zR with h1|⟨_,h1⟩
   ·exact nc.uC c vs h1
   ·exact h1
  ·cases zR
 ·cases hq:(μ.y5 μ' w w').z k.c with
  |none=>rfl
  |some vs=>
   have dw:μ b=some k:=hb;rcases jL _ _ hq with h1|h1
   ·rw [hg.apart b k dw] at h1;cases h1
   ·have:=(hg.own b k dw).2;omega
 ·have dw:μ b=some k:=hb;rw [hf _ (hg.own b k dw).2];exact iV.mono hle (hg.obj b k o dw ho)
theorem VR.Df(hz:∀ c vs,μ.z c=some vs->μ'.z c=some vs){x:AV}{v:Value}(hv:VR w0 μ x v)(hp:x.pure=true):VR w0 μ' x v:=by
 have OX:∀ g,(μ.z g).isSome=true->(μ'.z g).isSome=true:=fun g hg=>by
  obtain ⟨zs,h1⟩:=isSome_iff_exists.1 hg;rw [hz _ _ h1];rfl
 have hcell:∀ g i v,μ.cell g i=some v->μ'.cell g i=some v:=fun g i v hc=>by
  unfold Mu.cell at hc ⊢;obtain ⟨zs,h1,h2⟩:=bind_eq_some_iff.1 hc;rw [hz _ _ h1];exact h2
 induction hv with
 |undef v=>exact .undef v
 |bool b=>exact .bool b
 |int k n=>exact .int k n
 |str s=>exact .str s
 |jt=>exact .jt
 |ptr b off k hk=>cases hp
 |cS cs off g o vs hg hl hv hr ih=>exact .cS cs off g o vs trivial hl (fun i v h=>hcell _ _ _ (hv i v h)) (fun i x v hx hv=>ih i x v hx hv (AV.gj hp hx))
 |aE=>exact .aE
 |slice b off len sz cap a k hk hc ha=>cases hp
 |aL cs off len sz cap a g o vs hg hl hv hr hc ha ih=>exact .aL cs off len sz cap a g o vs trivial hl (fun i v h=>hcell _ _ _ (hv i v h)) (fun i x v hx hv=>ih i x v hx hv (AV.gj hp hx)) hc ha
 |dI=>exact .dI
 |map b k hk=>cases hp
 |j0=>exact .j0
 |func f xs ys us vs h1 h2 r1 r2 KR KS=>
  simp only [AV.pure,and_eq_true] at hp;exact .func f xs ys us vs h1 h2 (fun i x v hx hv=>KR i x v hx hv (AV.gj hp.1 hx)) (fun i x v hx hv=>KS i x v hx hv (AV.gj hp.2 hx))
 |j3=>exact .j3
 |iface t x v h ih=>exact .iface t x v (ih hp)
 |agg cs vs hl hr ih=>exact .agg cs vs hl (fun i x v hx hv=>ih i x v hx hv (AV.gj hp hx))
 |tuple cs vs hl hr ih=>exact .tuple cs vs hl (fun i x v hx hv=>ih i x v hx hv (AV.gj hp hx))
theorem y6{ν:Mu}(hν:ν.m=fun _=>none)(nc:Good w0 μ' h' w')(hx:Ext ν Heap.empty w μ' h' w')(hz:old=true->∀ c vs,ν.z c=some vs->μ.z c=some vs){x y:AV}(hf:Fz old h' x y){v:Value}(hv:VR w0 μ' x v) :
  VR w0 (μ.y5 μ' w w') y v:=by
 have key:∀ c vs,μ'.BD w' c=some vs->((∃ vs,μ.z c=some vs)\/w.heap.size<=c)->(μ.y5 μ' w w').z c=some vs:=by
  intro c vs hi Nk;show @ite _ ((∃ vs,μ.z c=some vs)\/w.heap.size<=c) (Classical.propDecidable _) (μ'.BD w' c) none=some vs;rw [if_pos Nk];exact hi
 refine xU nc (ν:=μ.y5 μ' w w') (fun b k hb vs hi=>key _ _ hi (.inr ?_)) (fun ho c vs hc=>key _ _ (Mu.pU hc) ?_) hf v hv
 ·rcases hx.new b k hb with h1|h1|⟨b0,k0,h1,_⟩
  ·rw [hν] at h1;cases h1
  ·exact h1
  ·rw [hν] at h1;cases h1
 ·rcases hx.nY c vs hc with h1|h1
  ·exact .inl ⟨vs,hz ho _ _ h1⟩
  ·exact .inr h1
theorem Sem.frozen{f:FuncId}{args:List AV}{K0 K:Out->Heap->Bool}(hs:Sem P f args Heap.empty K0)(hp:AV.bQ args=true)
  (hk:∀ o h',K0 o h'=true->∃ v r,o = .ret v/\Fz true h' v r/\K (.ret r) h=true):Sem P f args h K:=by
 refine ⟨hs.1,fun w0 μ w vs hg hv=>?_⟩;have qJ:cj w0 μ.bare args vs:=⟨hv.len,fun i x v hx wE=>VR.Df (μ:=μ) (μ':=μ.bare) (fun _ _ h=>h) (hv.rel i x v hx wE) (AV.gj hp hx)⟩
 refine (hs.2 w0 μ.bare w vs hg.nothing qJ).mono fun e w' hr=>?_
 cases e with
 |returned vc=>
  obtain ⟨v,h',μ',k1,k2,k3,k4⟩:=hr;obtain ⟨v',r,he,hf,hK⟩:=hk _ _ k1;cases he;obtain ⟨g1,g2⟩:=qX rfl hg k3 k4 (fun _ _ h=>h);exact ⟨r,h,_,hK,y6 (μ:=μ) rfl k3 k4 (fun _ _ _ h=>h) hf k2,g1,g2⟩
 |panicked c=>
  obtain ⟨v,vc,h',μ',k1,_⟩:=hr;obtain ⟨v',r,he,_⟩:=hk _ _ k1;cases he
 |outgrown=>exact hr.elim
theorem Good.Nl(hg:Good w0 μ h w):Good w0 ⟨fun _=>none,μ.BD w⟩ Heap.empty w:=
 ⟨hg.below,Heap.jR,by simp,by simp,fun c vs hc=>by
  rcases Mu.De hc with h1|⟨_,h1⟩
  ·exact hg.uC c vs h1
  ·exact h1,by simp,by simp,by simp⟩
theorem Sem.Ls{f:FuncId}{args uX:List AV}{K0 K:Out->Heap->Bool}(hs:Sem P f uX Heap.empty K0)(hp:kf true h args uX)
  (hk:∀ o h',K0 o h'=true->∃ v r,o = .ret v/\Fz false h' v r/\K (.ret r) h=true):Sem P f args h K:=by
 refine ⟨hs.1,fun w0 μ w vs hg hv=>?_⟩
 have qJ:cj w0 ⟨fun _=>none,μ.BD w⟩ uX vs:=by
  refine ⟨by rw [<- hp.len];exact hv.len,fun i y v hy wE=>?_⟩;have hi:i<uX.length:=(fR.1 hy).1;have hx:args[i]?=some (args[i]'(by rw [hp.len];exact hi)):=fc _;exact xU hg (ν:=⟨fun _=>none,μ.BD w⟩) (fun _ _ _ _ h=>h) (fun _ c vs h=>Mu.pU h) (hp.rel i _ y hx hy) v (hv.rel i _ v hx wE)
 refine (hs.2 w0 _ w vs hg.Nl qJ).mono fun e w' hr=>?_
 cases e with
 |returned vc=>
  obtain ⟨v,h',μ',k1,k2,k3,k4⟩:=hr;obtain ⟨v',r,he,hf,hK⟩:=hk _ _ k1;cases he;obtain ⟨g1,g2⟩:=qX rfl hg k3 k4 (fun c vs h=>Mu.pU h);exact ⟨r,h,_,hK,y6 (μ:=μ) rfl k3 k4 (fun h=>by cases h) hf k2,g1,g2⟩
 |panicked c=>
  obtain ⟨v,vc,h',μ',k1,_⟩:=hr;obtain ⟨v',r,he,_⟩:=hk _ _ k1;cases he
 |outgrown=>exact hr.elim
end
end
end Go.AM
namespace Go.AM
open List Nat Bool Option
open Go Go.RowKit
noncomputable section
def qY(f:AV->Option AV):List AV->Option (List AV)
 |[]=>some []
 |x :: xs=>match f x with
  |none=>none
  |some y=>match qY f xs with
   |none=>none
   |some ys=>some (y :: ys)
def gl(old:Bool)(h:Heap):Nat->AV->Option AV
 |0,_=>none
 |n+1,x=>match x with
  |.ptr b off=>(match h.get b with
   |some (.cells cs)=>(match qY (gl old h n) cs with|some ds=>some (.cS ds off)|none=>none)
   |_=>none)
  |.slice b off len sz=>(match h.get b with
   |some (.cells cs)=>(match qY (gl old h n) cs with|some ds=>some (.aL ds off len sz)|none=>none)
   |_=>none)
  |.cS cs off=>@Bool.rec (fun _=>Option AV) none (match qY (gl old h n) cs with|some ds=>some (.cS ds off)|none=>none) old
  |.aL cs off len sz=>@Bool.rec (fun _=>Option AV) none (match qY (gl old h n) cs with|some ds=>some (.aL ds off len sz)|none=>none) old
  |.func f a b=>(match qY (gl old h n) a with
   |none=>none
   |some a'=>match qY (gl old h n) b with
    |none=>none
    |some b'=>some (.func f a' b'))
  |.iface t v=>(match gl old h n v with|some w=>some (.iface t w)|none=>none)
  |.agg cs=>(match qY (gl old h n) cs with|some ds=>some (.agg ds)|none=>none)
  |.tuple cs=>(match qY (gl old h n) cs with|some ds=>some (.tuple ds)|none=>none)
  |.map _=>none
  |x=>some x
theorem iP{old:Bool}{h:Heap}{f:AV->Option AV}(hf:∀ x y,f x=some y->Fz old h x y):∀ {xs ys:List AV},qY f xs=some ys->kf old h xs ys
 |[],ys,e=>by simp only [qY,Option.some.injEq] at e;subst e;exact .nil
 |x :: xs,ys,e=>by
  simp only [qY] at e;split at e
  ·cases e
  ·rename_i y hy;split at e
   ·cases e
   ·rename_i Kw Kr;cases e;exact .cons (hf _ _ hy) (iP hf Kr)
theorem kY{old:Bool}{h:Heap}:∀ (n:Nat) (x y:AV),gl old h n x=some y->Fz old h x y
 |0,x,y,e=>by cases e
 |n+1,x,y,e=>by
  have ih:=fun x y=>kY (old:=old) (h:=h) n x y;cases x<;>simp only [gl,Option.some.injEq,reduceCtorEq] at e
  case undef=>subst e;exact .scalar _ rfl
  case bool=>subst e;exact .scalar _ rfl
  case int=>subst e;exact .scalar _ rfl
  case str=>subst e;exact .scalar _ rfl
  case jt=>subst e;exact .scalar _ rfl
  case aE=>subst e;exact .scalar _ rfl
  case dI=>subst e;exact .scalar _ rfl
  case j0=>subst e;exact .scalar _ rfl
  case j3=>subst e;exact .scalar _ rfl
  case ptr b off=>
   split at e
   ·rename_i cs hb;split at e
    ·rename_i ds hd;cases e;have:=iP ih hd;exact .ptr b off cs ds hb this.len this.rel
    ·cases e
   ·cases e
  case slice b off len sz=>
   split at e
   ·rename_i cs hb;split at e
    ·rename_i ds hd;cases e;have:=iP ih hd;exact .slice b off len sz cs ds hb this.len this.rel
    ·cases e
   ·cases e
  case cS cs off=>
   cases ho:old with
   |false=>rw [ho] at e;cases e
   |true=>
    rw [<- ho];rw [ho] at e;simp only at e;split at e
    ·rename_i ds hd;cases e;rw [<- ho] at hd;have:=iP ih hd;exact .cS cs ds off ho this.len this.rel
    ·cases e
  case aL cs off len sz=>
   cases ho:old with
   |false=>rw [ho] at e;cases e
   |true=>
    rw [<- ho];rw [ho] at e;simp only at e;split at e
    ·rename_i ds hd;cases e;rw [<- ho] at hd;have:=iP ih hd;exact .aL cs ds off len sz ho this.len this.rel
    ·cases e
  case func f a b=>
   split at e
   ·cases e
   ·rename_i a' ha;split at e
    ·cases e
    ·rename_i b' hb;cases e;have h1:=iP ih ha;have h2:=iP ih hb;exact .func f a b a' b' h1.len h2.len h1.rel h2.rel
  case iface t v=>
   split at e
   ·rename_i w hw;cases e;exact .iface t v w (ih _ _ hw)
   ·cases e
  case agg cs=>
   split at e
   ·rename_i ds hd;cases e;have:=iP ih hd;exact .agg cs ds this.len this.rel
   ·cases e
  case tuple cs=>
   split at e
   ·rename_i ds hd;cases e;have:=iP ih hd;exact .tuple cs ds this.len this.rel
   ·cases e
def sF(old:Bool)(n:Nat)(r:AV):Out->Heap->Bool
 |.ret v,h=>(match gl old h n v with|some r'=>AV.beq r' r|none=>false)
 |_,_=>false
def FD(a0:List AV)(r:AV):List AV->Heap->(Out->Heap->Bool)->Bool:=fun args h K=>
 AV.oX args a0&&K (.ret r) h
def Aw(n:Nat)(a0:List AV)(r:AV):List AV->Heap->(Out->Heap->Bool)->Bool:=fun args h K=>
 match qY (gl true h n) args with
 |some as=>AV.oX as a0&&K (.ret r) h
 |none=>false
theorem Ax{P:Program}{call:fT}(hs:di P call){f:FuncId}{a0:List AV}{n:Nat}{r:AV}(hp:AV.bQ a0=true)(he:call f a0 Heap.empty (sF true n r)=true)
  (args:List AV) (h:Heap) (K:Out->Heap->Bool) (hK:FD a0 r args h K=true):Sem P f args h K:=by
 simp only [FD,and_eq_true] at hK;obtain rfl:=AV.ji _ _ hK.1;refine Sem.frozen (hs.IE he) hp fun o h' ho=>?_
 cases o with
 |ret v=>
  simp only [sF] at ho;split at ho
  ·rename_i r' hr;obtain rfl:=AV.beq_eq _ _ ho;exact ⟨v,_,rfl,kY _ _ _ hr,hK.2⟩
  ·cases ho
 |panic v=>cases ho
theorem mz{P:Program}{call:fT}(hs:di P call){f:FuncId}{a0:List AV}{n m:Nat}{r:AV}(he:call f a0 Heap.empty (sF false n r)=true)
  (args:List AV) (h:Heap) (K:Out->Heap->Bool) (hK:Aw m a0 r args h K=true):Sem P f args h K:=by
 unfold Aw at hK;split at hK
 ·rename_i as ha;simp only [and_eq_true] at hK;obtain rfl:=AV.ji _ _ hK.1;refine Sem.Ls (hs.IE he) (iP (fun x y=>kY m x y) ha) fun o h' ho=>?_
  cases o with
  |ret v=>
   simp only [sF] at ho;split at ho
   ·rename_i r' hr;obtain rfl:=AV.beq_eq _ _ ho;exact ⟨v,_,rfl,kY _ _ _ hr,hK.2⟩
   ·cases ho
  |panic v=>cases ho
 ·cases hK
end
end Go.AM