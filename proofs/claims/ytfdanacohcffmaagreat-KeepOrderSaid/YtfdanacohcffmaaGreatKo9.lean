/- Parts of the proof. Conditions: none. -/
import Derived.Test.YtfdanacohcffmaaGreatKo8
import Derived.LoopN
set_option linter.unusedSimpArgs false
set_option linter.unusedVariables false
namespace Go.AM
open List Nat Bool Option
open Go Go.RowKit
inductive XE (w0:World) (μ:Mu):AX->Exit->Prop where
 |normal:XE w0 μ .normal .normal
 |exit (id:Nat):XE w0 μ (.exit id) (.exit id)
 |ret:XE w0 μ .ret .ret
 |panic (v:AV) (vc:Value) (h:VR w0 μ v vc):XE w0 μ (.panic v) (.panic [{ v:=vc,recovered:=false }])
def wm(w0:World)(μ:Mu)(h:Heap)(w:World)(K:AX->St->Bool)(Q:Exit->Act->World->Prop):Prop:=
 ∀ (e:AX) (ex:Exit) (s':St) (a':Act) (w':World) (μ':Mu),K e s'=true->XE w0 μ' e ex->SR w0 μ' s' a' w'->Ext μ h w μ' s'.h w'->Q ex a' w'
section
variable {P:Program} {w0 w:World} {μ μ':Mu} {h h':Heap} {s:St} {a:Act}
theorem wm.after{K:AX->St->Bool}{Q:Exit->Act->World->Prop}(hl:wm w0 μ h w K Q){w':World}(hx:Ext μ h w μ' h' w'):wm w0 μ' h' w' K Q:=
 fun e ex s2 a2 w2 μ2 k2 q2 r2 x2=>hl e ex s2 a2 w2 μ2 k2 q2 r2 (hx.trans x2)
theorem HU(env:Env):∀ (n i t:Nat),aD (JZ env n i) t=if t<n then env (i+t) else bJ
 |0,i,t=>by simp [JZ,aD]
 |n+1,i,t=>by
  cases t with
  |zero=>simp [JZ,aD]
  |succ t=>
   simp only [JZ,aD,HU env n (i+1) t];rw [show i+1+t=i+(t+1) by omega];by_cases h:t<n
   ·rw [if_pos h,if_pos (by omega)]
   ·rw [if_neg h,if_neg (by omega)]
theorem SR.tab(hs:SR w0 μ s a w):SR w0 μ s.tab a w:=by
 refine ⟨⟨hs.env.1,fun t=>?_⟩,hs.defs,hs.gh⟩;show VR w0 μ (aD (JZ s.env s.n 0) t) _;rw [HU];by_cases h:t<s.n
 ·rw [if_pos h,Nat.zero_add];exact hs.env.2 t
 ·rw [if_neg h]
  have:a.tmps.getD t undef=undef:=by
   have h1:=hs.env.1;rw [Array.getD_eq_getD_getElem?,Array.getElem?_eq_none (by omega)];rfl
  rw [this];exact VR.bJ
theorem LN(hm:P.follows .mixedOrders=true){call:jK}(hc:fS P call)(rounds:Nat):∀ (c:Code) (s:St) (a:Act) (w:World) (μ:Mu) (K:AX->St->Bool) (Q:Exit->Act->World->Prop),SR w0 μ s a w ->
  wm w0 μ s.h w K Q->evalCode P call rounds c s K=true->c.wp P Q a w:=by
 intro c
 induction c with
 |skip=>intro s a w μ K Q hs hl h;exact wp_skip (hl _ _ _ _ _ _ h .normal hs (Ext.refl _ _ _))
 |region id ops draw=>
  intro s a w μ K Q hs hl h;simp only [evalCode] at h
  cases draw with
  |true=>
   rw [if_pos rfl] at h;obtain ⟨HT,hp,h⟩:=fF h;exact LM hm hc hp hs (fun s' a' w' μ' hK gv hx=>hl _ _ _ _ _ _ hK .normal gv hx) h
  |false=>
   simp only [false_eq_true,if_false] at h;refine wp_region ?_;have:=Kf (Q:=Q) hc ops.toList 0 s a w μ (fun j o hj=>by rw [Nat.zero_add];simpa using hj) hs ⟨fun s' a' w' μ' hK gv hx=>hl _ _ _ _ _ _ hK .normal gv hx,fun v vc s' a' w' μ' hK hv gv hx=>hl _ _ _ _ _ _ hK (.panic v vc hv) gv hx⟩ h;rw [range_eq_range'];simpa using this
 |seq x y Vf Vg=>
  intro s a w μ K Q hs hl h;simp only [evalCode] at h;refine wp_seq (Vf s a w μ _ _ hs (fun e ex s' a' w' μ' hK hq gv hx=>?_) h)
  cases hq with
  |normal=>exact Vg s' a' w' μ' K Q gv (hl.after hx) hK
  |exit id=>exact hl _ _ _ _ _ _ hK (.exit id) gv hx
  |ret=>exact hl _ _ _ _ _ _ hK .ret gv hx
  |panic v vc hv=>exact hl _ _ _ _ _ _ hK (.panic v vc hv) gv hx
 |cond c x y Vf Vg=>
  intro s a w μ K Q hs hl h;simp only [evalCode] at h;have hcv:=hs.eval c;split at h
  ·rename_i e;rw [e] at hcv;exact wp_cond_true hcv.iB (Vf s a w μ K Q hs hl h)
  ·rename_i e;rw [e] at hcv;exact wp_cond_false hcv.iB (Vg s a w μ K Q hs hl h)
  ·cases h
 |block id c ih=>
  intro s a w μ K Q hs hl h;simp only [evalCode] at h;refine wp_block (ih s a w μ _ _ hs (fun e ex s' a' w' μ' hK hq gv hx=>?_) h)
  cases hq with
  |normal=>exact hl _ _ _ _ _ _ hK .normal gv hx
  |exit MC=>
   simp only [Exit.inBlock];simp only at hK;by_cases e:MC=id
   ·rw [if_pos e];rw [if_pos e] at hK;exact hl _ _ _ _ _ _ hK .normal gv hx
   ·rw [if_neg e];rw [if_neg e] at hK;exact hl _ _ _ _ _ _ hK (.exit MC) gv hx
  |ret=>exact hl _ _ _ _ _ _ hK .ret gv hx
  |panic v vc hv=>exact hl _ _ _ _ _ _ hK (.panic v vc hv) gv hx
 |loop c ih=>
  intro s a w μ K Q hs hl h;simp only [evalCode] at h;refine wp_loop_rounds rounds ?_
  have key:∀ (n:Nat) (s:St) (a:Act) (w:World) (μ:Mu),SR w0 μ s a w->wm w0 μ s.h w K Q->iter (evalCode P call rounds c) K n s=true->Code.rounds P c Q n a w:=by
   intro n
   induction n with
   |zero=>intro s a w μ hs hl h;cases h
   |succ n ihn=>
    intro s a w μ hs hl h;simp only [iter] at h;rw [rounds_succ];refine ih s a w μ _ _ hs (fun e ex s' a' w' μ' hK hq gv hx=>?_) h
    cases hq with
    |normal=>exact ihn s'.tab a' w' μ' gv.tab (hl.after hx) hK
    |exit id=>exact hl _ _ _ _ _ _ hK (.exit id) gv hx
    |ret=>exact hl _ _ _ _ _ _ hK .ret gv hx
    |panic v vc hv=>exact hl _ _ _ _ _ _ hK (.panic v vc hv) gv hx
  exact key rounds s a w μ hs hl h
 |exit id=>intro s a w μ K Q hs hl h;exact wp_exit (hl _ _ _ _ _ _ h (.exit id) hs (Ext.refl _ _ _))
 |ret=>intro s a w μ K Q hs hl h;exact wp_ret (hl _ _ _ _ _ _ h .ret hs (Ext.refl _ _ _))
 |_=>intros;rename_i h;simp [evalCode] at h
def oz(vc:Option Value):FrameMode:=match vc with
 |none=>.returning
 |some v=>.panicking [{ v,recovered:=false }]
inductive D3 (w0:World) (μ:Mu):Option AV->Option Value->Prop where
 |none:D3 w0 μ none none
 |some {v:AV} {vc:Value} (h:VR w0 μ v vc):D3 w0 μ (some v) (some vc)
def Cf(P:Program)(D:pQ):Prop:=
 ∀ f g,D f=some g->Enters P f/\∀ (args:List AV) (Hv:Option AV) (h:Heap) (K:Option AV->Heap->Bool),g args Hv h K=true ->
  ∀ (w0:World) (μ:Mu) (w:World) (vs:List Value) (pv:Option Value),Good w0 μ h w->dZ w0 μ args vs->D3 w0 μ Hv pv->CallsD P f vs.toArray (oz pv) w fun
   |.returned _,u',w'=>∃ rU JI h' μ',K rU h'=true/\D3 w0 μ' rU JI/\settle u'=oz JI/\Good w0 μ' h' w'/\Ext μ h w μ' h' w'
   |_,_,_=>False
def E8(tmps:Array Value):ResultVar->Sem Value
 |.tmp t=>pure (tmps.getD t undef)
 |.cell x t=>do loadVar t (<- asAddr (tmps.getD x undef))
theorem HV(hs:SR w0 μ s a w){r:ResultVar}{v:AV}(h:Br P s r=some v) :
  ∃ vc,(E8 a.tmps r).run P w = .ok vc w/\VR w0 μ v vc:=by
 cases r with
 |tmp t=>
  simp only [Br,Option.some.injEq] at h;subst h;exact ⟨_,by simp only [E8,Sem.run_pure],hs.env.2 t⟩
 |cell x t=>
  simp only [Br] at h;split at h
  ·rename_i i hi;have hx:=hs.env.2 x;unfold ah at h;split at h
   ·rename_i b off hxe;rw [hxe] at hx;split at h
    ·rename_i cs ho;generalize Rk:a.tmps.getD x undef=xv at hx;cases hx;rename_i k hk;obtain ⟨vc,h1,h2⟩:=oZ hi (hs.gh.cells hk ho) h;exact ⟨vc,by simp only [E8,Rk,asAddr,Sem.run_bind,Sem.run_pure,Result.andThen_ok,h1],h2⟩
    ·cases h
   ·rename_i cs off hxe;rw [hxe] at hx;generalize Rk:a.tmps.getD x undef=xv at hx;cases hx;rename_i g o vs T7 hv B6 uW;obtain ⟨vc,h1,h2⟩:=oZ hi (hs.gh.J8 T7 B6 hv uW) h;exact ⟨vc,by simp only [E8,Rk,asAddr,Sem.run_bind,Sem.run_pure,Result.andThen_ok,h1],h2⟩
   ·cases h
  ·cases h
theorem Ab(hs:SR w0 μ s a w):∀ (rs:List ResultVar) (vs:List AV),dz P s rs=some vs ->
  ∃ us:List Value,(rs.mapM (E8 a.tmps)).run P w = .ok us w/\dZ w0 μ vs us
 |[],vs,h=>by
  simp only [dz,Option.some.injEq] at h;subst h;exact ⟨[],by simp,.nil⟩
 |r :: rs,vs,h=>by
  simp only [dz] at h;split at h
  ·rename_i v vs' h1 h2;cases h;obtain ⟨vc,e1,e2⟩:=HV hs h1;obtain ⟨us,e3,e4⟩:=Ab hs rs vs' h2;exact ⟨vc :: us,by simp only [mapM_cons,Sem.run_bind,e1,Result.andThen_ok,e3,Sem.run_pure],.cons e2 e4⟩
  ·cases h
theorem Ac(hs:SR w0 μ s a w){fn:Func}{vs:List AV}(h:dz P s fn.results.toList=some vs):∃ vc,(results fn a.tmps).run P w = .ok vc w/\VR w0 μ (oneOf vs) vc:=by
 obtain ⟨us,h1,h2⟩:=Ab hs _ _ h
 have hm:(results fn a.tmps).run P w = .ok (if h:us.toArray.size=1 then us.toArray[0] else .tuple us.toArray) w:=by
  have hr:results fn a.tmps=(do let vs <- fn.results.mapM (E8 a.tmps);pure (if h:vs.size=1 then vs[0] else .tuple vs)):=by
   unfold results;congr 2
  rw [hr,<- Array.toArray_toList (xs:=fn.results),mapM_toArray];simp only [Sem.run_bind,map_eq_pure_bind,h1,Result.andThen_ok,Sem.run_pure]
 refine ⟨_,hm,?_⟩
 cases vs with
 |nil=>obtain rfl:=h2.gO;exact dZ.tuple .nil
 |cons v vs=>
  obtain ⟨u,WI,rfl,h3,h4⟩:=h2.cons_inv
  cases vs with
  |nil=>obtain rfl:=h4.gO;simpa [oneOf] using h3
  |cons v2 vs=>
   obtain ⟨u2,us2,rfl,h5,h6⟩:=h4.cons_inv;rw [dif_neg (by simp)];exact dZ.tuple h2
theorem mG{D:pQ}(hD:Cf P D){fn:Func}{μb:Mu}{hb:Heap}{wb:World}{K:Out->Heap->Bool}:∀ (ds:List oV) (Ds:List Deferred) (Hv:Option AV) (pv:Option Value) (s:St) (a:Act) (w:World) (μ:Mu),
  Cb w0 μ s.env s.n a.tmps->xE w0 μ ds Ds->Good w0 μ s.h w->D3 w0 μ Hv pv->Ext μb hb wb μ s.h w->leave P D fn.results.toList K ds Hv s=true ->
  Leaves P fn a.tmps (yT w0 μb hb wb K) Ds (oz pv) w
 |[],Ds,Hv,pv,s,a,w,μ,he,hd,hg,hp,hx,h=>by
  cases hd;have hs:SR w0 μ ⟨s.env,s.n,[],s.h⟩ ⟨a.tmps,[]⟩ w:=⟨he,.nil,hg⟩
  cases hp with
  |none=>
   simp only [leave] at h;obtain ⟨vs,h1,h2⟩:=fF h
   have T9:dz P ⟨s.env,s.n,[],s.h⟩ fn.results.toList=some vs:=by
    rw [<- h1]
    have:∀ rs:List ResultVar,dz P ⟨s.env,s.n,[],s.h⟩ rs=dz P s rs:=by
     intro rs
     induction rs with
     |nil=>rfl
     |cons r rs ih=>simp only [dz,ih];cases r<;>rfl
    exact this _
   obtain ⟨vc,h3,h4⟩:=Ac hs T9;exact ⟨vc,h3,_,_,_,h2,h4,hg,hx⟩
  |some hv=>
   simp only [leave] at h;exact ⟨_,_,_,_,h,rfl,hv,hg,hx⟩
 |d :: ds,Ds,Hv,pv,s,a,w,μ,he,hd,hg,hp,hx,h=>by
  cases hd with
  |cons hdr ht=>
   obtain ⟨cap,args,rfl,r1,r2⟩:=hdr;simp only [leave] at h;split at h
   ·rename_i g LK;obtain ⟨rV,Vh⟩:=hD d.f g LK;have hcd:=Vh _ _ _ _ h w0 μ w (args++cap) pv hg (r1.append r2) hp;refine ⟨by cases pv<;>simp [oz],.func d.f,cap.toArray,d.f,(args++cap).toArray,rfl,?_,?_⟩
    ·have e:args.toArray++cap.toArray=(args++cap).toArray:=(by simp);simp only [invoke,e,xF rV]
    ·refine CallsD.mono hcd fun e u' w' hR=>?_
     cases e with
     |returned v=>
      obtain ⟨rU,JI,h',μ',hK,B2,hu,hg2,fY⟩:=hR;simp only;rw [hu];exact mG hD ds _ rU JI ⟨s.env,s.n,s.defs,h'⟩ a w' μ' (he.mono fY.mono) (ht.mono fY.mono) hg2 B2 (hx.trans fY) hK
     |panicked c=>exact hR.elim
     |outgrown=>exact hR.elim
   ·cases h
theorem yV{args:List AV}{vs:List Value}(h:dZ w0 μ args vs){n:Nat}(hn:args.length<=n):Cb w0 μ (aD args) n (vs.toArray++Array.replicate (n-vs.toArray.size) undef):=by
 have hl:=h.len;refine ⟨by simp;omega,fun t=>?_⟩
 have key:∀ (args:List AV) (t:Nat),aD args t=(args[t]?).getD bJ:=by
  intro args
  induction args with
  |nil=>intro t;simp [aD]
  |cons x xs ih=>
   intro t
   cases t with
   |zero=>simp [aD]
   |succ t=>simp [aD,ih]
 rw [key];by_cases ht:t<args.length
 ·have h1:args[t]?=some args[t]:=ew ht;obtain ⟨v,h2,h3⟩:=h.get h1;rw [h1]
  have:(vs.toArray++Array.replicate (n-vs.toArray.size) undef).getD t undef=v:=by
   rw [Array.getD_eq_getD_getElem?,Array.getElem?_append_left (by simp;omega)];simp [h2]
  rw [this];exact h3
 ·rw [getElem?_eq_none (by omega)]
  have:(vs.toArray++Array.replicate (n-vs.toArray.size) undef).getD t undef=undef:=by
   rw [Array.getD_eq_getD_getElem?,Array.getElem?_append_right (by simp;omega),Array.getElem?_replicate];split<;>rfl
  rw [this];exact VR.bJ
def iJ(P:Program)(F:xu):Prop:=
 ∀ f g,F f=some g->∀ args h K,g args h K=true->Enters P f/\∀ (w0:World) (μ:Mu) (w:World) (vs:List Value),Good w0 μ h w->dZ w0 μ args vs->Calls P f vs.toArray w (yT w0 μ h w K)
theorem jY(hm:P.follows .mixedOrders=true){F:xu}{D:pQ}(hF:iJ P F)(hD:Cf P D):∀ n,fS P (bQ P F D n)
 |0=>fun f args h K hh=>by cases hh
 |n+1=>fun f args h K hh=>by
  simp only [bQ] at hh;split at hh
  ·rename_i g hg;exact hF f g hg args h K hh
  ·split at hh
   ·cases hh
   ·rename_i fn Og;split at hh
    ·rename_i B7;simp only [and_eq_true,decide_eq_true_eq,bne_iff_ne,ne_eq] at B7;unfold Oy at hh;split at hh
     ·cases hh
     ·rename_i c hb;refine ⟨⟨fn,c,Og,hb,B7.2⟩,fun w0 μ w vs hg hv=>?_⟩;refine calls_of_wp_defers Og hb ?_;refine LN (w0:=w0) hm (jY hm hF hD n) n c ⟨aD args,fn.ntmps,[],h⟩ _ w μ _ _ ⟨yV hv B7.1,.nil,hg⟩ (fun e ex s' a' w' μ' hK hq gv hx=>?_) hh
      cases hq with
      |normal=>exact mG hD _ _ none none s' a' w' μ' gv.env gv.defs gv.gh .none hx hK
      |ret=>exact mG hD _ _ none none s' a' w' μ' gv.env gv.defs gv.gh .none hx hK
      |exit id=>cases hK
      |panic v vc hv=>exact mG hD _ _ (some v) (some vc) s' a' w' μ' gv.env gv.defs gv.gh (.some hv) hx hK
    ·cases hh
end
end Go.AM
namespace Go.AM
open List Nat Bool Option
open Go Go.RowKit
def Ry:List Entry->List Entry->Bool
 |[],[]=>true
 |a :: as,b :: bs=>AV.beq a.1 b.1&&(AV.beq a.2.1 b.2.1&&(Nat.beq a.2.2 b.2.2&&Ry as bs))
 |_,_=>false
def Heap.Clean(h:Heap):Prop:=∀ b,h.next<=b->h.get b=none
theorem Heap.sL:Heap.empty.Clean:=fun b _=>Trie.BV b
theorem Heap.HW{h:Heap}(hc:h.Clean)(o:jX):(h.alloc o).Clean:=fun b hb=>by
 simp at hb;rw [Heap.aW,if_neg (by omega)];exact hc b (by omega)
section
variable {P:Program} {w0 w:World} {μ μ':Mu} {h h' h1:Heap}
def Mu.bare(μ:Mu):Mu:=⟨fun _=>Option.none,μ.z⟩
def Mu.xy(μ μ':Mu):Mu:=⟨μ.m,μ'.z⟩
theorem Good.nothing(hg:Good w0 μ h w):Good w0 μ.bare Heap.empty w:=
 ⟨hg.below,Heap.sL,by simp [Mu.bare],by simp [Mu.bare],hg.yJ,by simp [Mu.bare],by simp [Mu.bare],by simp [Mu.bare]⟩
theorem Good.Vi(hg:Good w0 μ h w){w':World}(LK:Good w0 μ' h' w')(hx:Ext μ.bare Heap.empty w μ' h' w'):Good w0 (μ.xy μ') h w'/\Ext μ h w (μ.xy μ') h w':=by
 have hf:∀ k,k<w.heap.size->w'.heap[k]?=w.heap[k]?:=fun k hk=>hx.frame k hk (by simp [Mu.bare]);refine ⟨⟨LK.below,hg.clean,hg.fresh,fun b k hb=>?_,LK.yJ,fun b k hb=>?_,fun b k o hb ho=>?_,hg.inj⟩,⟨⟨fun _ _ h=>h,hx.mono.yJ⟩,fun k hk _=>hf k hk,fun _ _ h=>.inl h,hx.size,dN _,fun _ _ _=>rfl,fun _ _ h=>.inl h,hx.xy⟩⟩
 ·have:=hg.own b k hb;have:=hx.size;omega
 ·show μ'.z k.c=none
  cases hz:μ'.z k.c with
  |none=>rfl
  |some vs=>
   rcases hx.xy _ _ hz with h1|h1
   ·have T9:μ.z k.c=some vs:=h1;rw [hg.apart b k hb] at T9;cases T9
   ·have:=(hg.own b k hb).2;omega
 ·have eX:μ b=some k:=hb;rw [hf _ (hg.own b k eX).2];exact ny.mono (μ:=μ) (μ':=μ.xy μ') ⟨fun _ _ h=>h,hx.mono.yJ⟩ (hg.obj b k o eX ho)
def Ui(b:Bool):List AV->Heap->(Out->Heap->Bool)->Bool:=fun args h K=>
 match args with
 |[]=>K (.ret (.bool b)) h
 |_=>false
def Uj(b:Bool):Out->Heap->Bool
 |.ret v,_=>AV.beq v (.bool b)
 |_,_=>false
theorem HX{call:jK}(hs:fS P call){f:FuncId}{b:Bool}(he:call f [] Heap.empty (Uj b)=true)(args:List AV)(h:Heap)(K:Out->Heap->Bool)(hK:Ui b args h K=true) :
  Enters P f/\∀ (w0:World) (μ:Mu) (w:World) (vs:List Value),Good w0 μ h w->dZ w0 μ args vs->Calls P f vs.toArray w (yT w0 μ h w K):=by
 obtain ⟨rV,hc⟩:=hs _ _ _ _ he;refine ⟨rV,fun w0 μ w vs hg hv=>?_⟩;unfold Ui at hK;split at hK
 ·obtain rfl:=hv.gO;refine Calls.mono (hc w0 _ w [] hg.nothing .nil) fun e w' hR=>?_
  cases e with
  |returned vc=>
   obtain ⟨v,h',μ',k1,k2,k3,k4⟩:=hR;obtain rfl:=AV.beq_eq _ _ k1;obtain ⟨g1,g2⟩:=hg.Vi k3 k4;rw [k2.iB];exact ⟨_,h,μ.xy μ',hK,.bool b,g1,g2⟩
  |panicked c=>
   obtain ⟨v,vc,h',μ',k1,_⟩:=hR;cases k1
  |outgrown=>exact hR.elim
 ·cases hK
end
end Go.AM
namespace Go.AM
open List Nat Bool Option
open Go Go.RowKit
section
variable {w0:World} {μ:Mu} {ρ:Nat->Nat}
end
mutual
theorem AV.beq_refl:∀ x:AV,AV.beq x x=true
 |.undef=>rfl
 |.bool a=>by simp [AV.beq]
 |.int k a=>by simp [AV.beq]
 |.str a=>by simp [AV.beq]
 |.ey=>rfl
 |.ptr a i=>by simp [AV.beq]
 |.dQ a i=>by simp [AV.beq,AV.mH a]
 |.ay=>rfl
 |.slice b i l s=>by simp [AV.beq]
 |.ax a i l s=>by simp [AV.beq,AV.mH a]
 |.jJ=>rfl
 |.map a=>by simp [AV.beq]
 |.m8=>rfl
 |.func f a b=>by simp [AV.beq,AV.mH a,AV.mH b]
 |.pL=>rfl
 |.iface t v=>by simp [AV.beq,AV.beq_refl v]
 |.agg a=>by simp [AV.beq,AV.mH a]
 |.tuple a=>by simp [AV.beq,AV.mH a]
theorem AV.mH:∀ x:List AV,AV.xk x x=true
 |[]=>rfl
 |a :: l=>by simp [AV.xk,AV.beq_refl a,AV.mH l]
end
theorem xO:∀ n:Nat,Nat.beq n n=true
 |0=>rfl
 |n+1=>xO n
end Go.AM
namespace Go.AM
open List Nat Bool Option
def jZ(g1 g2:List AV->Heap->(Out->Heap->Bool)->Bool):List AV->Heap->(Out->Heap->Bool)->Bool:=fun args h K=>g1 args h K||g2 args h K
theorem cu{g1 g2:List AV->Heap->(Out->Heap->Bool)->Bool}{args:List AV}{h:Heap}{K:Out->Heap->Bool}(hK:jZ g1 g2 args h K=true):g1 args h K=true\/g2 args h K=true:=by
 simpa [jZ] using hK
end Go.AM
namespace Go.AM
open List Nat Bool Option
open Go Go.RowKit
noncomputable section
variable {K:Out->Heap->Bool} {args:List AV} {h:Heap} {f:FuncId} {env:Env} {P:Program}
def Sem(P:Program)(f:FuncId)(args:List AV)(h:Heap)(K:Out->Heap->Bool):Prop:=
 Enters P f/\∀ (w0:World) (μ:Mu) (w:World) (vs:List Value),Good w0 μ h w->dZ w0 μ args vs->Calls P f vs.toArray w (yT w0 μ h w K)
theorem yT.mono{w0 w:World}{μ:Mu}{K':Out->Heap->Bool}(hk:∀ o h',K o h'=true->K' o h'=true){e:Ending}{w':World}(hr:yT w0 μ h w K e w'):yT w0 μ h w K' e w':=by
 cases e with
 |returned vc=>obtain ⟨v,h',μ',k1,k2⟩:=hr;exact ⟨v,h',μ',hk _ _ k1,k2⟩
 |panicked c=>obtain ⟨v,vc,h',μ',k1,k2⟩:=hr;exact ⟨v,vc,h',μ',hk _ _ k1,k2⟩
 |outgrown=>exact hr.elim
theorem Sem.mono{P:Program}{f:FuncId}{args:List AV}{h:Heap}{K K':Out->Heap->Bool}(hs:Sem P f args h K)(hk:∀ o h',K o h'=true->K' o h'=true):Sem P f args h K':=
 ⟨hs.1,fun w0 μ w vs hg hv=>(hs.2 w0 μ w vs hg hv).mono fun _ _ hr=>hr.mono hk⟩
def aC(P:Program):jK:=fun f args h K=>@decide (Sem P f args h K) (Classical.propDecidable _)
theorem vH(P:Program):fS P (aC P):=fun f args h K hh=>@of_decide_eq_true _ (Classical.propDecidable _) hh
theorem ai(hs:Sem P f args h K):aC P f args h K=true:=@_root_.decide_eq_true _ (Classical.propDecidable _) hs
theorem fS.Uk{call:jK}(hc:fS P call)(hh:call f args h K=true):Sem P f args h K:=hc f args h K hh
theorem iJ.Uk{F:xu}(hF:iJ P F){g:List AV->Heap->(Out->Heap->Bool)->Bool}(hg:F f=some g)(hh:g args h K=true):Sem P f args h K:=hF f g hg args h K hh
def yes(p:Prop):Bool:=@decide p (Classical.propDecidable _)
theorem cw{p:Prop}:yes p=true↔p:=@decide_eq_true_iff p (Classical.propDecidable _)
theorem LO:∃ r:(St->(AX->St->Bool)->Bool)->St->(AX->St->Bool)->Bool,∀ f s K,r f s K=f s K:=⟨fun f s K=>f s K,fun _ _ _=>rfl⟩
def MX:(St->(AX->St->Bool)->Bool)->St->(AX->St->Bool)->Bool:=Classical.choose LO
theorem xP(f:St->(AX->St->Bool)->Bool)(s:St)(K:AX->St->Bool):MX f s K=f s K:=Classical.choose_spec LO f s K
def cY(j:Bool)(b:St->(AX->St->Bool)->Bool)(K:AX->St->Bool):AX->St->Bool
 |.normal,s'=>@Bool.rec (fun _=>Bool) (b s' K) (MX b s' K) j
 |.exit id,s'=>K (.exit id) s'
 |.ret,s'=>K .ret s'
 |.panic v,s'=>K (.panic v) s'
theorem HY(j:Bool)(b:St->(AX->St->Bool)->Bool)(K:AX->St->Bool)(s:St):cY j b K .normal s=b s K:=by
 cases j
 ·rfl
 ·exact xP b s K
def bg(id:Nat)(K:AX->St->Bool):AX->St->Bool
 |.normal,s'=>K .normal s'
 |.exit MC,s'=>@Bool.rec (fun _=>Bool) (K (.exit MC) s') (K .normal s') (Nat.beq MC id)
 |.ret,s'=>K .ret s'
 |.panic v,s'=>K (.panic v) s'
def aA(x:AV)(a b:Bool):Bool:=
 match x with
 |.bool t=>@Bool.rec (fun _=>Bool) b a t
 |_=>false
def E9(I:Nat->St->Prop)(n:Nat)(K:AX->St->Bool):AX->St->Bool
 |.normal,s'=>yes (∃ m,m<n/\I m s')
 |.exit id,s'=>K (.exit id) s'
 |.ret,s'=>K .ret s'
 |.panic v,s'=>K (.panic v) s'
def bV(f:St->(AX->St->Bool)->Bool)(s:St)(K:AX->St->Bool):Bool:=
 yes (∃ I:Nat->St->Prop,(∃ n,I n s)/\∀ n s',I n s'->f s' (E9 I n K)=true)
def LP(ops:List Oper)(j:Nat):Option Tmp:=match ops[j]? with|some g=>g.dst|none=>none
def OX(j:Nat):List Nat->Bool
 |[]=>false
 |k :: ks=>@Bool.rec (fun _=>Bool) (OX j ks) true (Nat.beq j k)
def jO(P:Program)(call:jK)(ops:List Oper):List Oper->Nat->List Nat->St->(RS->Bool)->Bool
 |[],_,_,s,K=>K (.ok s)
 |o :: rest,i,sk,⟨env,n,defs,h⟩,K=>
  match o.guard with
  |none=>jc o.op P call env defs h fun
   |.ok v defs h=>iw env n o.dst v fun env=>jO P call ops rest (i+1) sk ⟨env,n,defs,h⟩ K
   |.panic v h=>K (.panic v ⟨env,n,defs,h⟩)
  |some (j,want)=>match LP ops j with
   |none=>false
   |some d=>@Bool.rec (fun _=>Bool)
    (aA (env d)
     (@Bool.rec (fun _=>Bool) (iw (af env d (.bool true)) n o.dst bJ fun env=>jO P call ops rest (i+1) (i :: sk) ⟨env,n,defs,h⟩ K)
      (jc o.op P call (af env d (.bool true)) defs h fun
       |.ok v defs h=>iw (af env d (.bool true)) n o.dst v fun env=>jO P call ops rest (i+1) sk ⟨env,n,defs,h⟩ K
       |.panic v h=>K (.panic v ⟨af env d (.bool true),n,defs,h⟩)) want)
     (@Bool.rec (fun _=>Bool) (jc o.op P call (af env d (.bool false)) defs h fun
       |.ok v defs h=>iw (af env d (.bool false)) n o.dst v fun env=>jO P call ops rest (i+1) sk ⟨env,n,defs,h⟩ K
       |.panic v h=>K (.panic v ⟨af env d (.bool false),n,defs,h⟩))
      (iw (af env d (.bool false)) n o.dst bJ fun env=>jO P call ops rest (i+1) (i :: sk) ⟨env,n,defs,h⟩ K) want))
    (match env d with
     |.tuple _=>iw env n o.dst bJ fun env=>jO P call ops rest (i+1) (i :: sk) ⟨env,n,defs,h⟩ K
     |_=>false) (OX j sk)
def dK(P:Program)(call:jK)(ops:List Oper)(ms:List Nat):List (Nat×Oper)->List Read->List Nat->St->(St->Bool)->Bool
 |[],_,_,s,K=>K s
 |p :: rest,lg,sk,⟨env,n,defs,h⟩,K=>
  @Option.rec (Nat×Bool) (fun _=>Bool)
   (match fe p.2.op with
   |.pure=>gJ p.2.op P (evalArg env) h fun v _=>iw env n p.2.dst v fun eD=>dK P call ops ms rest lg sk ⟨eD,n,defs,h⟩ K
   |.read=>gJ p.2.op P (evalArg env) h fun v _=>iw env n p.2.dst v fun eD=>dK P call ops ms rest (⟨p.1,p.2.op,env,v⟩ :: lg) sk ⟨eD,n,defs,h⟩ K
   |.alloc=>gJ p.2.op P (evalArg env) h fun v h'=>iw env n p.2.dst v fun eD=>dK P call ops ms rest lg sk ⟨eD,n,defs,h'⟩ K
   |.JF=>
    jc p.2.op P call env defs h fun
     |.ok v jL h'=>if jt P ms p.1 h' lg then iw env n p.2.dst v fun eD=>dK P call ops ms rest lg sk ⟨eD,n,jL,h'⟩ K else false
     |.panic _ _=>false)
   (fun g=>match LP ops g.1 with
    |none=>false
    |some d=>@Bool.rec (fun _=>Bool)
     (aA (env d)
      (@Bool.rec (fun _=>Bool) (iw (af env d (.bool true)) n p.2.dst bJ fun eD=>dK P call ops ms rest lg (p.1 :: sk) ⟨eD,n,defs,h⟩ K)
       (match fe p.2.op with
       |.pure=>gJ p.2.op P (evalArg (af env d (.bool true))) h fun v _=>iw (af env d (.bool true)) n p.2.dst v fun eD=>dK P call ops ms rest lg sk ⟨eD,n,defs,h⟩ K
       |.read=>gJ p.2.op P (evalArg (af env d (.bool true))) h fun v _=>iw (af env d (.bool true)) n p.2.dst v fun eD=>dK P call ops ms rest (⟨p.1,p.2.op,af env d (.bool true),v⟩ :: lg) sk ⟨eD,n,defs,h⟩ K
       |.alloc=>gJ p.2.op P (evalArg (af env d (.bool true))) h fun v h'=>iw (af env d (.bool true)) n p.2.dst v fun eD=>dK P call ops ms rest lg sk ⟨eD,n,defs,h'⟩ K
       |.JF=>
        jc p.2.op P call (af env d (.bool true)) defs h fun
         |.ok v jL h'=>if jt P ms p.1 h' lg then iw (af env d (.bool true)) n p.2.dst v fun eD=>dK P call ops ms rest lg sk ⟨eD,n,jL,h'⟩ K else false
         |.panic _ _=>false) g.2)
      (@Bool.rec (fun _=>Bool)
       (match fe p.2.op with
       |.pure=>gJ p.2.op P (evalArg (af env d (.bool false))) h fun v _=>iw (af env d (.bool false)) n p.2.dst v fun eD=>dK P call ops ms rest lg sk ⟨eD,n,defs,h⟩ K
       |.read=>gJ p.2.op P (evalArg (af env d (.bool false))) h fun v _=>iw (af env d (.bool false)) n p.2.dst v fun eD=>dK P call ops ms rest (⟨p.1,p.2.op,af env d (.bool false),v⟩ :: lg) sk ⟨eD,n,defs,h⟩ K
       |.alloc=>gJ p.2.op P (evalArg (af env d (.bool false))) h fun v h'=>iw (af env d (.bool false)) n p.2.dst v fun eD=>dK P call ops ms rest lg sk ⟨eD,n,defs,h'⟩ K
       |.JF=>
        jc p.2.op P call (af env d (.bool false)) defs h fun
         |.ok v jL h'=>if jt P ms p.1 h' lg then iw (af env d (.bool false)) n p.2.dst v fun eD=>dK P call ops ms rest lg sk ⟨eD,n,jL,h'⟩ K else false
         |.panic _ _=>false)
       (iw (af env d (.bool false)) n p.2.dst bJ fun eD=>dK P call ops ms rest lg (p.1 :: sk) ⟨eD,n,defs,h⟩ K) g.2))
     (match env d with
      |.tuple _=>iw env n p.2.dst bJ fun eD=>dK P call ops ms rest lg (p.1 :: sk) ⟨eD,n,defs,h⟩ K
      |_=>false) (OX g.1 sk)) p.2.guard
def acQ(K:AX->St->Bool):RS->Bool
 |.ok s'=>K .normal s'
 |.panic v s'=>K (.panic v) s'
def oA(P:Program)(call:jK):Code->St->(AX->St->Bool)->Bool
 |.skip,s,K=>K .normal s
 |.region _ ops draw,s,K=>
  @Bool.rec (fun _=>Bool) (jO P call ops.toList ops.toList 0 [] s (acQ K))
   (ag (Hu ops.toList) fun p=>dK P call ops.toList p.ms p.L [] [] s fun s'=>K .normal s') draw
 |.seq a b,s,K=>oA P call a s (cY (U0 a b) (oA P call b) K)
 |.cond c a b,s,K=>aA (evalArg s.env c) (oA P call a s K) (oA P call b s K)
 |.block id c,s,K=>oA P call c s (bg id K)
 |.loop c,s,K=>bV (oA P call c) s K
 |.exit id,s,K=>K (.exit id) s
 |.ret,s,K=>K .ret s
 |_,_,_=>false
theorem uo{d:Nat}{v:AV}(h:env d=v):af env d v=env:=by
 funext t;rw [bP];by_cases e:t=d
 ·rw [if_pos e,e,h]
 ·rw [if_neg e]
theorem Fa{x:AV}{a b:Bool}(h:aA x a b=true):(x = .bool true/\a=true)\/(x = .bool false/\b=true):=by
 unfold aA at h;split at h
 ·rename_i t;cases t
  ·exact .inr ⟨rfl,h⟩
  ·exact .inl ⟨rfl,h⟩
 ·cases h
section
variable {P:Program} {w0 w:World} {μ μ':Mu} {h h':Heap} {s:St} {a:Act}
theorem Cg{ops:List Oper}{o:Oper}{j:Nat}{want:Bool}{d:Tmp}(hg:o.guard=some (j,want))(hd:LP ops j=some d) :
  iQ ops o env=(match env d with|.bool b=>some (b==want)|.tuple _=>some false|_=>none):=by
 unfold iQ LP at *;rw [hg];simp only;split at hd
 ·rename_i g hj;rw [hj];simp only [hd];rfl
 ·cases hd
theorem uq{ρ:Operand->AV}{op:Op}{hp:Heap}{K1 K2:AV->Heap->Bool}(hk:∀ v h',K1 v h'=true->K2 v h'=true)(hh:gJ op P ρ hp K1=true):gJ op P ρ hp K2=true:=by
 have val:∀ {o:Option AV},ku hp K1 o=true->ku hp K2 o=true:=by
  intro o h;cases o with
  |none=>exact h
  |some a=>exact hk _ _ h
 have both:∀ {o:Option (AV×Heap)},vC K1 o=true->vC K2 o=true:=by
  intro o h;cases o with
  |none=>exact h
  |some a=>exact hk _ _ h
 have heap:∀ {o:Option Heap},zQ K1 o=true->zQ K2 o=true:=by
  intro o h;cases o with
  |none=>exact h
  |some a=>exact hk _ _ h
 have bind:∀ {α:Type} {o:Option α} {f g:α->Bool},(∀ a,f a=true->g a=true)->ag o f=true->ag o g=true:=by
  intro α o f g hfg h;cases o with
  |none=>exact h
  |some a=>exact hfg _ h
 cases op<;>simp only [gJ] at hh ⊢<;>try (first|exact hk _ _ hh|exact val hh|exact both hh|exact heap hh|exact bind (fun _ h=>val h) hh|exact bind (fun _ h=>both h) hh|exact bind (fun _ h=>heap h) hh|exact bind (fun _ h=>hk _ _ h) hh|(exfalso;simp at hh;done))
 case buildSlice t n ps=>unfold qN at hh ⊢;exact bind (fun _ h=>bind (fun _ h=>hk _ _ h) h) hh
 case binOp o t x y u=>
  unfold Ow at hh ⊢;cases o<;>simp only at hh ⊢<;>first|exact val hh|exact bind (fun _ h=>val h) hh
 case makeFunc fn f c=>
  unfold BS at hh ⊢;cases fn<;>simp only at hh ⊢<;>first|exact hk _ _ hh|exact hh
 case makeMap t r=>
  unfold EW at hh ⊢;cases r<;>simp only at hh ⊢<;>first|exact hk _ _ hh|exact hh
 case slice t x lo hi mx=>
  unfold Gb at hh ⊢;cases mx<;>simp only at hh ⊢<;>first|exact bind (fun _ h=>val h) hh|exact hh
 case call c=>
  obtain ⟨yO,args,ts⟩:=c;unfold su at hh ⊢
  cases yO with
  |value f=>exact hh
  |invoke r m=>exact hh
  |builtin b=>
   simp only at hh ⊢;cases b<;>simp only [EX,JX,false_eq_true] at hh ⊢
   case append=>
    unfold yL at hh ⊢;split at hh
    ·exact bind (fun _ h=>both h) hh
    ·exact hh
   case copy=>
    unfold Gc at hh ⊢;split at hh
    ·exact bind (fun _ h=>both h) hh
    ·exact hh
   case len=>
    unfold JW at hh ⊢;split at hh
    ·exact bind (fun _ h=>val h) hh
    ·exact hh
   case delete=>
    unfold yM at hh ⊢;split at hh
    ·exact bind (fun _ h=>heap h) hh
    ·exact hh
   case min=>
    unfold uc at hh ⊢;split at hh
    ·exact val hh
    ·exact hh
   case max=>
    unfold uc at hh ⊢;split at hh
    ·exact val hh
    ·exact hh
theorem HZ{op:Op}{defs:List oV}{hp:Heap}{K1 K2:R->Bool}(hk:∀ r,K1 r=true->K2 r=true)(hh:jc op P (aC P) env defs hp K1=true):jc op P (aC P) env defs hp K2=true:=by
 have plain:∀ {op:Op},oY op P (aC P) env defs hp K1=true->oY op P (aC P) env defs hp K2=true:=fun h=>uq (fun _ _ h=>hk _ h) h;cases op<;>simp only [jc] at hh ⊢<;>try exact plain hh
 case call c=>
  obtain ⟨yO,args,ts⟩:=c
  cases yO with
  |builtin b=>exact plain hh
  |invoke r m=>exact plain hh
  |value f=>
   simp only [vY,Bk] at hh ⊢;split at hh
   ·refine ai ((vH P).Uk hh |>.mono fun o h' h=>?_);cases o<;>exact hk _ h
   ·exact hh
 case defer c=>
  obtain ⟨yO,args,ts⟩:=c
  cases yO with
  |builtin b=>exact hh
  |invoke r m=>exact hh
  |value f=>
   simp only [xo] at hh ⊢;split at hh
   ·exact hk _ hh
   ·exact hh
 case panic x=>
  simp only [xp] at hh ⊢;split at hh
  ·exact hk _ hh
  ·exact hh
 case next x b=>
  simp only [Gd] at hh ⊢;generalize xm b (evalArg env x) hp=o at hh ⊢
  cases o with
  |none=>exact hh
  |some L=>
   simp only [ag] at hh ⊢
   induction L with
   |nil=>rfl
   |cons p L ih=>
    simp only [lP,and_eq_true] at hh ⊢;exact ⟨hk _ hh.1,ih hh.2⟩
theorem qj{n:Nat}{dst:Option Tmp}{v:AV}{k1 k2:Env->Bool}(hk:∀ e,k1 e=true->k2 e=true)(hh:iw env n dst v k1=true):iw env n dst v k2=true:=by
 cases dst with
 |none=>exact hk _ hh
 |some d=>
  simp only [iw] at hh ⊢
  cases hb:ble (d+1) n with
  |false=>rw [hb] at hh;cases hh
  |true=>rw [hb] at hh;exact hk _ hh
theorem j4{ops:List Oper}{ms:List Nat}{K:St->Bool}:∀ (L:List (Nat×Oper)) (lg:List Read) (sk:List Nat) (s:St),dK P (aC P) ops ms L lg sk s K=true->fE P (aC P) ops ms L lg s K=true
 |[],lg,sk,s,hh=>hh
 |p :: rest,lg,sk,⟨env,n,defs,hp⟩,hh=>by
  have Kl:(match fe p.2.op with
   |.pure=>gJ p.2.op P (evalArg env) hp fun v _=>iw env n p.2.dst v fun eD=>dK P (aC P) ops ms rest lg sk ⟨eD,n,defs,hp⟩ K
   |.read=>gJ p.2.op P (evalArg env) hp fun v _=>iw env n p.2.dst v fun eD=>dK P (aC P) ops ms rest (⟨p.1,p.2.op,env,v⟩ :: lg) sk ⟨eD,n,defs,hp⟩ K
   |.alloc=>gJ p.2.op P (evalArg env) hp fun v h'=>iw env n p.2.dst v fun eD=>dK P (aC P) ops ms rest lg sk ⟨eD,n,defs,h'⟩ K
   |.JF=>
    jc p.2.op P (aC P) env defs hp fun
     |.ok v jL h'=>if jt P ms p.1 h' lg then iw env n p.2.dst v fun eD=>dK P (aC P) ops ms rest lg sk ⟨eD,n,jL,h'⟩ K else false
     |.panic _ _=>false)=true->(match fe p.2.op with
   |.pure=>gJ p.2.op P (evalArg env) hp fun v _=>iw env n p.2.dst v fun eD=>fE P (aC P) ops ms rest lg ⟨eD,n,defs,hp⟩ K
   |.read=>gJ p.2.op P (evalArg env) hp fun v _=>iw env n p.2.dst v fun eD=>fE P (aC P) ops ms rest (⟨p.1,p.2.op,env,v⟩ :: lg) ⟨eD,n,defs,hp⟩ K
   |.alloc=>gJ p.2.op P (evalArg env) hp fun v h'=>iw env n p.2.dst v fun eD=>fE P (aC P) ops ms rest lg ⟨eD,n,defs,h'⟩ K
   |.JF=>
    jc p.2.op P (aC P) env defs hp fun
     |.ok v jL h'=>if jt P ms p.1 h' lg then iw env n p.2.dst v fun eD=>fE P (aC P) ops ms rest lg ⟨eD,n,jL,h'⟩ K else false
     |.panic _ _=>false)=true:=by
   intro h;cases hk:fe p.2.op<;>rw [hk] at h<;>simp only at h ⊢
   ·exact uq (fun v h' h=>qj (fun e h=>j4 rest _ _ _ h) h) h
   ·exact uq (fun v h' h=>qj (fun e h=>j4 rest _ _ _ h) h) h
   ·exact uq (fun v h' h=>qj (fun e h=>j4 rest _ _ _ h) h) h
   ·refine HZ (fun r h=>?_) h
    cases r with
    |ok v jL h'=>
     simp only at h ⊢;split at h
     ·rename_i hs;rw [if_pos hs];exact qj (fun e h=>j4 rest _ _ _ h) h
     ·cases h
    |panic v h'=>cases h
  have Ch:∀ sk',(iw env n p.2.dst bJ fun eD=>dK P (aC P) ops ms rest lg sk' ⟨eD,n,defs,hp⟩ K)=true->(iw env n p.2.dst bJ fun eD=>fE P (aC P) ops ms rest lg ⟨eD,n,defs,hp⟩ K)=true:=
   fun sk' h=>qj (fun e h=>j4 rest _ _ _ h) h
  simp only [dK] at hh;simp only [fE]
  cases hg:p.2.guard with
  |none=>
   rw [hg] at hh;have hw:iQ ops p.2 env=some true:=by unfold iQ;rw [hg]
   rw [hw];exact Kl hh
  |some g=>
   obtain ⟨j,want⟩:=g;rw [hg] at hh;simp only at hh;split at hh
   ·cases hh
   ·rename_i d hd;have Km:=Cg (env:=env) hg hd
    cases hm:OX j sk with
    |true=>
     rw [hm] at hh;simp only at hh;split at hh
     ·rename_i vs hv;rw [hv] at Km;rw [Km];exact Ch _ hh
     ·cases hh
    |false=>
     rw [hm] at hh;simp only at hh;rcases Fa hh with ⟨hv,hh⟩|⟨hv,hh⟩
     ·rw [hv] at Km;rw [uo hv] at hh;rw [Km]
      cases want with
      |true=>exact Kl hh
      |false=>exact Ch _ hh
     ·rw [hv] at Km;rw [uo hv] at hh;rw [Km]
      cases want with
      |true=>exact Ch _ hh
      |false=>exact Kl hh
theorem Gp{call:jK}(hc:fS P call){ops:Array Oper}{K:RS->Bool}{Q:Exit->Act->World->Prop}:∀ (l:List Oper) (i:Nat) (sk:List Nat) (s:St) (a:Act) (w:World) (μ:Mu),(∀ j o,l[j]?=some o->ops[i+j]?=some o) ->
  SR w0 μ s a w->(hl:yU w0 μ s.h w K Q)->jO P call ops.toList l i sk s K=true->wpOps P ops Q (range' i l.length) a w
 |[],i,sk,s,a,w,μ,hi,hs,hl,h=>by
  simp only [length_nil,range'_zero,wpOps];exact hl.ok _ _ _ _ h hs (Ext.refl _ _ _)
 |o :: rest,i,sk,s,a,w,μ,hi,hs,hl,h=>by
  have Oe:ops[i]?=some o:=by simpa using hi 0 o rfl
  obtain ⟨env,n,defs,hp⟩:=s;simp only [length_cons,range'_succ,wpOps,Oe]
  have uU:∀ j o',rest[j]?=some o'->ops[i+1+j]?=some o':=fun j o' hj=>by
   have:=hi (j+1) o' (by simpa using hj)
   rwa [show i+1+j=i+(j+1) by omega]
  have Kl:iQ ops.toList o env=some true->(jc o.op P call env defs hp fun
       |.ok v defs h=>iw env n o.dst v fun env=>jO P call ops.toList rest (i+1) sk ⟨env,n,defs,h⟩ K
       |.panic v h=>K (.panic v ⟨env,n,defs,h⟩))=true ->
    (if Region.wanted o (yielded ops a.tmps) then o.wp P a w (wpOps P ops Q (range' (i+1) rest.length)) Q\/(o.asks P a w/\LetsOut Q) else wpOps P ops Q (range' (i+1) rest.length) (a.put o.dst undef) w):=by
   intro hw hh;rw [kZ hs.env hw,if_pos rfl];refine .inl (Bt hs hc ⟨fun v jL h' a' w' μ' hK gv hx=>?_,fun v vc h' w' μ' hK hv gv hx=>?_⟩ hh)
   ·exact Gp hc rest (i+1) sk _ a' w' μ' uU gv (hl.after hx) (kV hK)
   ·exact hl.panic v vc _ a w' μ' hK hv gv hx
  have Ch:iQ ops.toList o env=some false->(iw env n o.dst bJ fun env=>jO P call ops.toList rest (i+1) (i :: sk) ⟨env,n,defs,hp⟩ K)=true ->
    (if Region.wanted o (yielded ops a.tmps) then o.wp P a w (wpOps P ops Q (range' (i+1) rest.length)) Q\/(o.asks P a w/\LetsOut Q) else wpOps P ops Q (range' (i+1) rest.length) (a.put o.dst undef) w):=by
   intro hw hh;rw [kZ hs.env hw];simp only [false_eq_true,if_false];have gv:=hs.left o.dst (h':=hp) VR.bJ hs.gh (Mu.le.refl μ);exact Gp hc rest (i+1) (i :: sk) ⟨mo env n o.dst bJ,n,defs,hp⟩ _ w μ uU gv hl (kV hh)
  simp only [jO] at h;split at h
  ·rename_i hg;exact Kl (by unfold iQ;rw [hg]) h
  ·rename_i j want hg;split at h
   ·cases h
   ·rename_i d hd;have Km:=Cg (env:=env) hg hd
    cases hm:OX j sk with
    |true=>
     rw [hm] at h;simp only at h;split at h
     ·rename_i vs hv;rw [hv] at Km;exact Ch Km h
     ·cases h
    |false=>
     rw [hm] at h;simp only at h;rcases Fa h with ⟨hv,h⟩|⟨hv,h⟩
     ·rw [hv] at Km;rw [uo hv] at h
      cases want with
      |true=>exact Kl Km h
      |false=>exact Ch Km h
     ·rw [hv] at Km;rw [uo hv] at h
      cases want with
      |true=>exact Ch Km h
      |false=>exact Kl Km h
theorem OY(hm:P.follows .mixedOrders=true):∀ (c:Code) (s:St) (a:Act) (w:World) (μ:Mu) (K:AX->St->Bool) (Q:Exit->Act->World->Prop),SR w0 μ s a w ->
  wm w0 μ s.h w K Q->oA P (aC P) c s K=true->c.wp P Q a w:=by
 have hc:=vH P;intro c
 induction c with
 |skip=>intro s a w μ K Q hs hl h;exact wp_skip (hl _ _ _ _ _ _ h .normal hs (Ext.refl _ _ _))
 |region id ops draw=>
  intro s a w μ K Q hs hl h;simp only [oA] at h
  cases draw with
  |true=>
   simp only at h;obtain ⟨HT,hp,h⟩:=fF h;exact LM hm hc hp hs (fun s' a' w' μ' hK gv hx=>hl _ _ _ _ _ _ hK .normal gv hx) (j4 _ _ _ _ h)
  |false=>
   simp only at h;refine wp_region ?_;have:=Gp (Q:=Q) hc ops.toList 0 [] s a w μ (fun j o hj=>by rw [Nat.zero_add];simpa using hj) hs ⟨fun s' a' w' μ' hK gv hx=>hl _ _ _ _ _ _ hK .normal gv hx,fun v vc s' a' w' μ' hK hv gv hx=>hl _ _ _ _ _ _ hK (.panic v vc hv) gv hx⟩ h;rw [range_eq_range'];simpa using this
 |seq x y Vf Vg=>
  intro s a w μ K Q hs hl h;simp only [oA] at h;refine wp_seq (Vf s a w μ _ _ hs (fun e ex s' a' w' μ' hK hq gv hx=>?_) h)
  cases hq with
  |normal=>exact Vg s' a' w' μ' K Q gv (hl.after hx) (by rw [HY] at hK;exact hK)
  |exit id=>exact hl _ _ _ _ _ _ hK (.exit id) gv hx
  |ret=>exact hl _ _ _ _ _ _ hK .ret gv hx
  |panic v vc hv=>exact hl _ _ _ _ _ _ hK (.panic v vc hv) gv hx
 |cond c x y Vf Vg=>
  intro s a w μ K Q hs hl h;simp only [oA,aA] at h;have hcv:=hs.eval c;split at h
  ·rename_i t e;rw [e] at hcv
   cases t with
   |true=>exact wp_cond_true hcv.iB (Vf s a w μ K Q hs hl h)
   |false=>exact wp_cond_false hcv.iB (Vg s a w μ K Q hs hl h)
  ·cases h
 |block id c ih=>
  intro s a w μ K Q hs hl h;simp only [oA] at h;refine wp_block (ih s a w μ _ _ hs (fun e ex s' a' w' μ' hK hq gv hx=>?_) h)
  cases hq with
  |normal=>exact hl _ _ _ _ _ _ hK .normal gv hx
  |exit MC=>
   simp only [Exit.inBlock];simp only [bg] at hK;by_cases e:MC=id
   ·subst e;rw [xO] at hK;rw [if_pos rfl];exact hl _ _ _ _ _ _ hK .normal gv hx
   ·rw [if_neg e]
    have hb:Nat.beq MC id=false:=by
     cases hq:Nat.beq MC id with
     |false=>rfl
     |true=>exact absurd (eq_of_beq_eq_true hq) e
    rw [hb] at hK;exact hl _ _ _ _ _ _ hK (.exit MC) gv hx
  |ret=>exact hl _ _ _ _ _ _ hK .ret gv hx
  |panic v vc hv=>exact hl _ _ _ _ _ _ hK (.panic v vc hv) gv hx
 |loop c ih=>
  intro s a w μ K Q hs hl h;simp only [oA,bV] at h;obtain ⟨I,⟨n0,hI0⟩,kj⟩:=cw.1 h;refine wp_loop_rounds (n0+1) ?_
  have key:∀ (N n:Nat) (s:St) (a:Act) (w:World) (μ:Mu),SR w0 μ s a w->wm w0 μ s.h w K Q->I n s->n<N->Code.rounds P c Q N a w:=by
   intro N
   induction N with
   |zero=>intro n s a w μ hs hl hi hn;omega
   |succ N ihn=>
    intro n s a w μ hs hl hi hn;rw [rounds_succ];refine ih s a w μ _ _ hs (fun e ex s' a' w' μ' hK hq gv hx=>?_) (kj n s hi)
    cases hq with
    |normal=>
     obtain ⟨m,Xr,H7⟩:=cw.1 hK;exact ihn m s' a' w' μ' gv (hl.after hx) H7 (by omega)
    |exit id=>exact hl _ _ _ _ _ _ hK (.exit id) gv hx
    |ret=>exact hl _ _ _ _ _ _ hK .ret gv hx
    |panic v vc hv=>exact hl _ _ _ _ _ _ hK (.panic v vc hv) gv hx
  exact key (n0+1) n0 s a w μ hs hl hI0 (by omega)
 |exit id=>intro s a w μ K Q hs hl h;exact wp_exit (hl _ _ _ _ _ _ h (.exit id) hs (Ext.refl _ _ _))
 |ret=>intro s a w μ K Q hs hl h;exact wp_ret (hl _ _ _ _ _ _ h .ret hs (Ext.refl _ _ _))
 |_=>intros;rename_i h;simp [oA] at h
def eH:pQ:=fun _=>none
theorem bO(P:Program):Cf P eH:=fun f g h=>by cases h
theorem cm(hm:P.follows .mixedOrders=true){D:pQ}(hD:Cf P D){fn:Func}{c:Code}(Og:P.funcs[f]?=some fn)(hb:fn.body=some c)(OZ:fn.name≠ "runtime.NumGoroutine")
  (hlen:args.length<=fn.ntmps)
  (hh:oA P (aC P) c ⟨aD args,fn.ntmps,[],h⟩ (aT P D fn.results.toList K)=true):Sem P f args h K:=by
 refine ⟨⟨fn,c,Og,hb,OZ⟩,fun w0 μ w vs hg hv=>?_⟩;refine calls_of_wp_defers Og hb ?_;refine OY (w0:=w0) hm c ⟨aD args,fn.ntmps,[],h⟩ _ w μ _ _ ⟨yV hv hlen,.nil,hg⟩ (fun e ex s' a' w' μ' hK hq gv hx=>?_) hh
 cases hq with
 |normal=>exact mG hD _ _ none none s' a' w' μ' gv.env gv.defs gv.gh .none hx hK
 |ret=>exact mG hD _ _ none none s' a' w' μ' gv.env gv.defs gv.gh .none hx hK
 |exit id=>cases hK
 |panic v vc hv=>exact mG hD _ _ (some v) (some vc) s' a' w' μ' gv.env gv.defs gv.gh (.some hv) hx hK
end
end
end Go.AM
namespace Go.AM
open List Nat Bool Option
open Go Go.RowKit
noncomputable section
variable {old:Bool} {h:Heap}
def AV.scalar:AV->Bool
 |.undef|.bool _|.int _ _|.str _|.ey|.ay|.jJ|.m8|.pL=>true
 |_=>false
mutual
def AV.pure:AV->Bool
 |.ptr _ _|.slice _ _ _ _|.map _=>false
 |.dQ cs _=>AV.cO cs
 |.ax cs _ _ _=>AV.cO cs
 |.func _ a b=>AV.cO a&&AV.cO b
 |.iface _ v=>AV.pure v
 |.agg cs=>AV.cO cs
 |.tuple cs=>AV.cO cs
 |_=>true
def AV.cO:List AV->Bool
 |[]=>true
 |a :: as=>AV.pure a&&AV.cO as
end
theorem AV.lE:∀ {l:List AV},AV.cO l=true->∀ {i:Nat} {x:AV},l[i]?=some x->x.pure=true
 |a :: l,h,0,x,e=>by simp [AV.cO] at h;simp at e;subst e;exact h.1
 |a :: l,h,i+1,x,e=>by simp [AV.cO] at h;exact AV.lE h.2 (by simpa using e)
 |[],h,i,x,e=>by simp at e
theorem AV.Gq{l m:List AV}(h:AV.cO l=true)(k:AV.cO m=true):AV.cO (l++m)=true:=by
 induction l with
 |nil=>exact k
 |cons a l ih=>simp only [AV.cO,and_eq_true,cons_append] at h ⊢;exact ⟨h.1,ih h.2⟩
inductive Fz (old:Bool) (h:Heap):AV->AV->Prop where
 |scalar (x:AV) (hx:x.scalar=true):Fz old h x x
 |dQ (cs ou:List AV) (off:Nat) (ho:old=true) (hl:cs.length=ou.length) (hr:∀ (i:Nat) (x y:AV),cs[i]?=some x->ou[i]?=some y->Fz old h x y):Fz old h (.dQ cs off) (.dQ ou off)
 |ax (cs ou:List AV) (off len sz:Nat) (ho:old=true) (hl:cs.length=ou.length) (hr:∀ (i:Nat) (x y:AV),cs[i]?=some x->ou[i]?=some y->Fz old h x y):Fz old h (.ax cs off len sz) (.ax ou off len sz)
 |ptr (b off:Nat) (cs ou:List AV) (hb:h.get b=some (.cells cs)) (hl:cs.length=ou.length) (hr:∀ (i:Nat) (x y:AV),cs[i]?=some x->ou[i]?=some y->Fz old h x y):Fz old h (.ptr b off) (.dQ ou off)
 |slice (b off len sz:Nat) (cs ou:List AV) (hb:h.get b=some (.cells cs)) (hl:cs.length=ou.length) (hr:∀ (i:Nat) (x y:AV),cs[i]?=some x->ou[i]?=some y->Fz old h x y):Fz old h (.slice b off len sz) (.ax ou off len sz)
 |func (f:FuncId) (xs ys XF WO:List AV) (h1:xs.length=XF.length) (h2:ys.length=WO.length) (r1:∀ (i:Nat) (x y:AV),xs[i]?=some x->XF[i]?=some y->Fz old h x y)
   (r2:∀ (i:Nat) (x y:AV),ys[i]?=some x->WO[i]?=some y->Fz old h x y):Fz old h (.func f xs ys) (.func f XF WO)
 |iface (t:TypeId) (x y:AV) (hr:Fz old h x y):Fz old h (.iface t x) (.iface t y)
 |agg (cs ou:List AV) (hl:cs.length=ou.length) (hr:∀ (i:Nat) (x y:AV),cs[i]?=some x->ou[i]?=some y->Fz old h x y):Fz old h (.agg cs) (.agg ou)
 |tuple (cs ou:List AV) (hl:cs.length=ou.length) (hr:∀ (i:Nat) (x y:AV),cs[i]?=some x->ou[i]?=some y->Fz old h x y):Fz old h (.tuple cs) (.tuple ou)
structure lI (old:Bool) (h:Heap) (cs ou:List AV):Prop where
 len:cs.length=ou.length
 rel:∀ (i:Nat) (x y:AV),cs[i]?=some x->ou[i]?=some y->Fz old h x y
theorem lI.nil:lI old h [] []:=⟨rfl,by simp⟩
theorem lI.cons{x y:AV}{xs ys:List AV}(h1:Fz old h x y)(h2:lI old h xs ys):lI old h (x :: xs) (y :: ys):=
 ⟨by simp [h2.len],fun i u v a b=>by
  cases i with
  |zero=>simp at a b;subst a;subst b;exact h1
  |succ i=>simp at a b;exact h2.rel i u v a b⟩
theorem lI.append{xs ys us vs:List AV}(h1:lI old h xs us)(h2:lI old h ys vs):lI old h (xs++ys) (us++vs):=by
 induction xs generalizing us with
 |nil=>cases us with
  |nil=>exact h2
  |cons u us=>exact absurd h1.len (by simp)
 |cons x xs ih=>cases us with
  |nil=>exact absurd h1.len (by simp)
  |cons u us=>exact .cons (h1.rel 0 x u rfl rfl) (ih ⟨by simpa using h1.len,fun i a b p q=>h1.rel (i+1) a b (by simpa using p) (by simpa using q)⟩)
mutual
theorem Fz.dR{h:Heap}:∀ {x:AV},x.pure=true->Fz true h x x
 |.undef,_=>.scalar _ rfl
 |.bool _,_=>.scalar _ rfl
 |.int _ _,_=>.scalar _ rfl
 |.str _,_=>.scalar _ rfl
 |.ey,_=>.scalar _ rfl
 |.ay,_=>.scalar _ rfl
 |.jJ,_=>.scalar _ rfl
 |.m8,_=>.scalar _ rfl
 |.pL,_=>.scalar _ rfl
 |.dQ cs off,hp=>.dQ cs cs off rfl rfl (lI.dR hp).rel
 |.ax cs off len sz,hp=>.ax cs cs off len sz rfl rfl (lI.dR hp).rel
 |.func f a b,hp=>by
  simp only [AV.pure,and_eq_true] at hp;exact .func f a b a b rfl rfl (lI.dR hp.1).rel (lI.dR hp.2).rel
 |.iface t x,hp=>.iface t x x (Fz.dR hp)
 |.agg cs,hp=>.agg cs cs rfl (lI.dR hp).rel
 |.tuple cs,hp=>.tuple cs cs rfl (lI.dR hp).rel
 |.ptr _ _,hp=>by cases hp
 |.slice _ _ _ _,hp=>by cases hp
 |.map _,hp=>by cases hp
theorem lI.dR{h:Heap}:∀ {l:List AV},AV.cO l=true->lI true h l l
 |[],_=>.nil
 |a :: l,hp=>by
  simp only [AV.cO,and_eq_true] at hp;exact .cons (Fz.dR hp.1) (lI.dR hp.2)
end
section
variable {P:Program} {w0 w w':World} {μ μ':Mu} {h h':Heap}
def Mu.JJ(μ:Mu)(w:World)(c:Nat):Option (List Value):=
 match μ.z c with
 |some vs=>some vs
 |none=>@ite _ (∃ b k,μ b=some k/\k.c=c) (Classical.propDecidable _) (match w.heap[c]? with|some (.cells arr _ _)=>some arr.toList|_=>none) none
theorem Mu.xQ{c:Nat}{vs:List Value}(hz:μ.z c=some vs):μ.JJ w c=some vs:=by unfold Mu.JJ;rw [hz]
theorem Mu.Rz{b:Nat}{k:Gf}(hb:μ b=some k)(hz:μ.z k.c=none){arr:Array Value}{e:TypeId}{fr:Nat×Nat}(hc:w.heap[k.c]?=some (.cells arr e fr)):μ.JJ w k.c=some arr.toList:=by
 unfold Mu.JJ;rw [hz];simp only;rw [if_pos ⟨b,k,hb,rfl⟩,hc]
theorem Mu.LQ{c:Nat}{vs:List Value}(h:μ.JJ w c=some vs):μ.z c=some vs\/((∃ b k,μ b=some k/\k.c=c)/\∃ arr e fr,w.heap[c]?=some (.cells arr e fr)/\arr.toList=vs):=by
 unfold Mu.JJ at h;split at h
 ·rename_i vs' hz;cases h;exact .inl hz
 ·split at h
  ·rename_i hex;split at h
   ·rename_i arr e fr hc;cases h;exact .inr ⟨hex,arr,e,fr,hc,rfl⟩
   ·cases h
  ·cases h
def Mu.Gr(μ μ':Mu)(w w':World):Mu:=⟨μ.m,fun c=>@ite _ ((∃ vs,μ.z c=some vs)\/w.heap.size<=c) (Classical.propDecidable _) (μ'.JJ w' c) none⟩
theorem Fb(LK:Good w0 μ' h' w'){ν:Mu}(Vj:∀ b k,μ' b=some k->∀ vs,μ'.JJ w' k.c=some vs->ν.z k.c=some vs)(hold:old=true->∀ c vs,μ'.z c=some vs->ν.z c=some vs){x y:AV}(hf:Fz old h' x y):∀ v,VR w0 μ' x v->VR w0 ν y v:=by
 have RA:∀ b k cs,μ' b=some k->h'.get b=some (.cells cs)->∃ vs:List Value,vs.length=cs.length/\(ν.z k.c).isSome=true/\(∀ (i:Nat) (v:Value),vs[i]?=some v->ν.cell k.c (k.base+i)=some v) /\
   ∀ (i:Nat) (x:AV) (v:Value),cs[i]?=some x->vs[i]?=some v->VR w0 μ' x v:=by
  intro b k cs hb ho;obtain ⟨arr,e,fr,h1,h2,h3,h4,h5⟩:=LK.obj b k _ hb ho;have hz:ν.z k.c=some arr.toList:=Vj b k hb _ (Mu.Rz hb (LK.apart b k hb) h1);refine ⟨(arr.toList.drop k.base).take cs.length,by simp;omega,by rw [hz];rfl,fun i v hi=>?_,fun i x v hx hi=>?_⟩
  ·rw [getElem?_take] at hi;split at hi
   ·rw [getElem?_drop] at hi;unfold Mu.cell;rw [hz];exact hi
   ·cases hi
  ·obtain ⟨v',JK,Oh⟩:=h5 i x hx;rw [getElem?_take] at hi;split at hi
   ·rw [getElem?_drop,Array.getElem?_toList,JK] at hi;cases hi;exact Oh
   ·cases hi
 have rows:∀ {cs ou:List AV} {vs:List Value},cs.length=ou.length->cs.length=vs.length->(∀ (i:Nat) (x y:AV),cs[i]?=some x->ou[i]?=some y->∀ v,VR w0 μ' x v->VR w0 ν y v) ->
   (∀ (i:Nat) (x:AV) (v:Value),cs[i]?=some x->vs[i]?=some v->VR w0 μ' x v)->∀ (i:Nat) (y:AV) (v:Value),ou[i]?=some y->vs[i]?=some v->VR w0 ν y v:=by
  intro cs ou vs hl Ul ih hr i y v hy hv;have hi:i<ou.length:=(ki.1 hy).1;have hx:cs[i]?=some (cs[i]'(by omega)):=ew (by omega);exact ih i _ y hx hy v (hr i _ v hx hv)
 induction hf with
 |scalar x hx=>
  intro v hv;cases hv<;>simp only [AV.scalar,false_eq_true,reduceCtorEq] at hx<;>constructor
 |dQ cs ou off ho hl hr ih=>
  intro v hv;cases hv;rename_i g o vs hg hv B6 uW;refine .dQ ou off g o vs ?_ (by omega) (fun i v hi=>?_) (rows hl B6 ih uW)
  ·trivial
  ·have:=hv i v hi;unfold Mu.cell at this ⊢;obtain ⟨zs,hz,Bv⟩:=bind_eq_some_iff.1 this;rw [hold ho _ _ hz];exact Bv
 |ax cs ou off len sz ho hl hr ih=>
  intro v hv;cases hv;rename_i cap a g o vs hg hv B6 uW ha hc;refine .ax ou off len sz cap a g o vs ?_ (by omega) (fun i v hi=>?_) (rows hl B6 ih uW) hc ha
  ·trivial
  ·have:=hv i v hi;unfold Mu.cell at this ⊢;obtain ⟨zs,hz,Bv⟩:=bind_eq_some_iff.1 this;rw [hold ho _ _ hz];exact Bv
 |ptr b off cs ou hb hl hr ih=>
  intro v hv;cases hv;rename_i k hk;obtain ⟨vs,q1,q2,q3,q4⟩:=RA b k cs hk hb;exact .dQ ou off k.c k.base vs trivial (by omega) q3 (rows hl (by omega) ih q4)
 |slice b off len sz cs ou hb hl hr ih=>
  intro v hv;cases hv;rename_i cap a k hk hc ha;obtain ⟨vs,q1,q2,q3,q4⟩:=RA b k cs hk hb;exact .ax ou off len sz cap a k.c k.base vs trivial (by omega) q3 (rows hl (by omega) ih q4) hc (fun h0=>(ha h0).1)
 |func f xs ys XF WO h1 h2 r1 r2 Xh Xi=>
  intro v hv;cases hv;rename_i us vs g1 q1 g2 q2;exact .func f XF WO us vs (by omega) (by omega) (rows h1 g1 Xh q1) (rows h2 g2 Xi q2)
 |iface t x y hr ih=>
  intro v hv;cases hv;rename_i v hv;exact .iface t y v (ih v hv)
 |agg cs ou hl hr ih=>
  intro v hv;cases hv;rename_i vs B6 uW;exact .agg ou vs (by omega) (rows hl B6 ih uW)
 |tuple cs ou hl hr ih=>
  intro v hv;cases hv;rename_i vs B6 uW;exact .tuple ou vs (by omega) (rows hl B6 ih uW)
theorem Fc{ν:Mu}(hν:ν.m=fun _=>none)(hg:Good w0 μ h w)(LK:Good w0 μ' h' w')(hx:Ext ν Heap.empty w μ' h' w')(hz:∀ c vs,μ.z c=some vs->ν.z c=some vs) :
  Good w0 (μ.Gr μ' w w') h w'/\Ext μ h w (μ.Gr μ' w w') h w':=by
 have hf:∀ k,k<w.heap.size->w'.heap[k]?=w.heap[k]?:=fun k hk=>hx.frame k hk (by simp [hν])
 have oU:∀ c vs,(μ.Gr μ' w w').z c=some vs->μ.z c=some vs\/w.heap.size<=c:=by
  intro c vs hc;have D5:@ite _ ((∃ vs,μ.z c=some vs)\/w.heap.size<=c) (Classical.propDecidable _) (μ'.JJ w' c) none=some vs:=hc;split at D5
  ·rename_i hor;rcases hor with ⟨vs',hv⟩|QK
   ·rw [Mu.xQ (hx.mono.yJ _ _ (hz _ _ hv))] at D5;cases D5;exact .inl hv
   ·exact .inr QK
  ·cases D5
 have XG:∀ c vs,μ.z c=some vs->(μ.Gr μ' w w').z c=some vs:=by
  intro c vs hv;show @ite _ ((∃ vs,μ.z c=some vs)\/w.heap.size<=c) (Classical.propDecidable _) (μ'.JJ w' c) none=some vs;rw [if_pos (.inl ⟨vs,hv⟩)];exact Mu.xQ (hx.mono.yJ _ _ (hz _ _ hv))
 have hle:μ.le (μ.Gr μ' w w'):=⟨fun _ _ h=>h,XG⟩
 refine ⟨⟨LK.below,hg.clean,hg.fresh,fun b k hb=>?_,fun c vs hc=>?_,fun b k hb=>?_,fun b k o hb ho=>?_,hg.inj⟩,⟨hle,fun k hk _=>hf k hk,fun _ _ h=>.inl h,hx.size,dN _,fun _ _ _=>rfl,fun _ _ h=>.inl h,oU⟩⟩
 ·have:=hg.own b k hb;have:=hx.size;omega
 ·have D5:@ite _ ((∃ vs,μ.z c=some vs)\/w.heap.size<=c) (Classical.propDecidable _) (μ'.JJ w' c) none=some vs:=hc;split at D5
  ·rcases Mu.LQ D5 with h1|⟨_,h1⟩
   ·exact LK.yJ c vs h1
   ·exact h1
  ·cases D5
 ·cases hq:(μ.Gr μ' w w').z k.c with
  |none=>rfl
  |some vs=>
   have eX:μ b=some k:=hb;rcases oU _ _ hq with h1|h1
   ·rw [hg.apart b k eX] at h1;cases h1
   ·have:=(hg.own b k eX).2;omega
 ·have eX:μ b=some k:=hb;rw [hf _ (hg.own b k eX).2];exact ny.mono hle (hg.obj b k o eX ho)
theorem VR.RB(hz:∀ c vs,μ.z c=some vs->μ'.z c=some vs){x:AV}{v:Value}(hv:VR w0 μ x v)(hp:x.pure=true):VR w0 μ' x v:=by
 have LR:∀ g,(μ.z g).isSome=true->(μ'.z g).isSome=true:=fun g hg=>by
  obtain ⟨zs,h1⟩:=isSome_iff_exists.1 hg;rw [hz _ _ h1];rfl
 have hcell:∀ g i v,μ.cell g i=some v->μ'.cell g i=some v:=fun g i v hc=>by
  unfold Mu.cell at hc ⊢;obtain ⟨zs,h1,h2⟩:=bind_eq_some_iff.1 hc;rw [hz _ _ h1];exact h2
 induction hv with
 |undef v=>exact .undef v
 |bool b=>exact .bool b
 |int k n=>exact .int k n
 |str s=>exact .str s
 |ey=>exact .ey
 |ptr b off k hk=>cases hp
 |dQ cs off g o vs hg hl hv hr ih=>exact .dQ cs off g o vs trivial hl (fun i v h=>hcell _ _ _ (hv i v h)) (fun i x v hx hv=>ih i x v hx hv (AV.lE hp hx))
 |ay=>exact .ay
 |slice b off len sz cap a k hk hc ha=>cases hp
 |ax cs off len sz cap a g o vs hg hl hv hr hc ha ih=>exact .ax cs off len sz cap a g o vs trivial hl (fun i v h=>hcell _ _ _ (hv i v h)) (fun i x v hx hv=>ih i x v hx hv (AV.lE hp hx)) hc ha
 |jJ=>exact .jJ
 |map b k hk=>cases hp
 |m8=>exact .m8
 |func f xs ys us vs h1 h2 r1 r2 Xh Xi=>
  simp only [AV.pure,and_eq_true] at hp;exact .func f xs ys us vs h1 h2 (fun i x v hx hv=>Xh i x v hx hv (AV.lE hp.1 hx)) (fun i x v hx hv=>Xi i x v hx hv (AV.lE hp.2 hx))
 |pL=>exact .pL
 |iface t x v h ih=>exact .iface t x v (ih hp)
 |agg cs vs hl hr ih=>exact .agg cs vs hl (fun i x v hx hv=>ih i x v hx hv (AV.lE hp hx))
 |tuple cs vs hl hr ih=>exact .tuple cs vs hl (fun i x v hx hv=>ih i x v hx hv (AV.lE hp hx))
theorem LS{ν:Mu}(hν:ν.m=fun _=>none)(LK:Good w0 μ' h' w')(hx:Ext ν Heap.empty w μ' h' w')(hz:old=true->∀ c vs,ν.z c=some vs->μ.z c=some vs){x y:AV}(hf:Fz old h' x y){v:Value}(hv:VR w0 μ' x v) :
  VR w0 (μ.Gr μ' w w') y v:=by
 have key:∀ c vs,μ'.JJ w' c=some vs->((∃ vs,μ.z c=some vs)\/w.heap.size<=c)->(μ.Gr μ' w w').z c=some vs:=by
  intro c vs hi hor;show @ite _ ((∃ vs,μ.z c=some vs)\/w.heap.size<=c) (Classical.propDecidable _) (μ'.JJ w' c) none=some vs;rw [if_pos hor];exact hi
 refine Fb LK (ν:=μ.Gr μ' w w') (fun b k hb vs hi=>key _ _ hi (.inr ?_)) (fun ho c vs hc=>key _ _ (Mu.xQ hc) ?_) hf v hv
 ·rcases hx.new b k hb with h1|h1|⟨b0,k0,h1,_⟩
  ·rw [hν] at h1;cases h1
  ·exact h1
  ·rw [hν] at h1;cases h1
 ·rcases hx.xy c vs hc with h1|h1
  ·exact .inl ⟨vs,hz ho _ _ h1⟩
  ·exact .inr h1
theorem Sem.frozen{f:FuncId}{args:List AV}{K0 K:Out->Heap->Bool}(hs:Sem P f args Heap.empty K0)(hp:AV.cO args=true)
  (hk:∀ o h',K0 o h'=true->∃ v r,o = .ret v/\Fz true h' v r/\K (.ret r) h=true):Sem P f args h K:=by
 refine ⟨hs.1,fun w0 μ w vs hg hv=>?_⟩;have DR:dZ w0 μ.bare args vs:=⟨hv.len,fun i x v hx HC=>VR.RB (μ:=μ) (μ':=μ.bare) (fun _ _ h=>h) (hv.rel i x v hx HC) (AV.lE hp hx)⟩
 refine (hs.2 w0 μ.bare w vs hg.nothing DR).mono fun e w' hr=>?_
 cases e with
 |returned vc=>
  obtain ⟨v,h',μ',k1,k2,k3,k4⟩:=hr;obtain ⟨v',r,he,hf,hK⟩:=hk _ _ k1;cases he;obtain ⟨g1,g2⟩:=Fc rfl hg k3 k4 (fun _ _ h=>h);exact ⟨r,h,_,hK,LS (μ:=μ) rfl k3 k4 (fun _ _ _ h=>h) hf k2,g1,g2⟩
 |panicked c=>
  obtain ⟨v,vc,h',μ',k1,_⟩:=hr;obtain ⟨v',r,he,_⟩:=hk _ _ k1;cases he
 |outgrown=>exact hr.elim
theorem Good.acS(hg:Good w0 μ h w):Good w0 ⟨fun _=>none,μ.JJ w⟩ Heap.empty w:=
 ⟨hg.below,Heap.sL,by simp,by simp,fun c vs hc=>by
  rcases Mu.LQ hc with h1|⟨_,h1⟩
  ·exact hg.yJ c vs h1
  ·exact h1,by simp,by simp,by simp⟩
theorem Sem.Vk{f:FuncId}{args vI:List AV}{K0 K:Out->Heap->Bool}(hs:Sem P f vI Heap.empty K0)(hp:lI true h args vI)
  (hk:∀ o h',K0 o h'=true->∃ v r,o = .ret v/\Fz false h' v r/\K (.ret r) h=true):Sem P f args h K:=by
 refine ⟨hs.1,fun w0 μ w vs hg hv=>?_⟩
 have DR:dZ w0 ⟨fun _=>none,μ.JJ w⟩ vI vs:=by
  refine ⟨by rw [<- hp.len];exact hv.len,fun i y v hy HC=>?_⟩;have hi:i<vI.length:=(ki.1 hy).1;have hx:args[i]?=some (args[i]'(by rw [hp.len];exact hi)):=ew _;exact Fb hg (ν:=⟨fun _=>none,μ.JJ w⟩) (fun _ _ _ _ h=>h) (fun _ c vs h=>Mu.xQ h) (hp.rel i _ y hx hy) v (hv.rel i _ v hx HC)
 refine (hs.2 w0 _ w vs hg.acS DR).mono fun e w' hr=>?_
 cases e with
 |returned vc=>
  obtain ⟨v,h',μ',k1,k2,k3,k4⟩:=hr;obtain ⟨v',r,he,hf,hK⟩:=hk _ _ k1;cases he;obtain ⟨g1,g2⟩:=Fc rfl hg k3 k4 (fun c vs h=>Mu.xQ h);exact ⟨r,h,_,hK,LS (μ:=μ) rfl k3 k4 (fun h=>by cases h) hf k2,g1,g2⟩
 |panicked c=>
  obtain ⟨v,vc,h',μ',k1,_⟩:=hr;obtain ⟨v',r,he,_⟩:=hk _ _ k1;cases he
 |outgrown=>exact hr.elim
end
end
end Go.AM
namespace Go.AM
open List Nat Bool Option
open Go Go.RowKit
noncomputable section
def yW(f:AV->Option AV):List AV->Option (List AV)
 |[]=>some []
 |x :: xs=>match f x with
  |none=>none
  |some y=>match yW f xs with
   |none=>none
   |some ys=>some (y :: ys)
def j5(old:Bool)(h:Heap):Nat->AV->Option AV
 |0,_=>none
 |n+1,x=>match x with
  |.ptr b off=>(match h.get b with
   |some (.cells cs)=>(match yW (j5 old h n) cs with|some ds=>some (.dQ ds off)|none=>none)
   |_=>none)
  |.slice b off len sz=>(match h.get b with
   |some (.cells cs)=>(match yW (j5 old h n) cs with|some ds=>some (.ax ds off len sz)|none=>none)
   |_=>none)
  |.dQ cs off=>@Bool.rec (fun _=>Option AV) none (match yW (j5 old h n) cs with|some ds=>some (.dQ ds off)|none=>none) old
  |.ax cs off len sz=>@Bool.rec (fun _=>Option AV) none (match yW (j5 old h n) cs with|some ds=>some (.ax ds off len sz)|none=>none) old
  |.func f a b=>(match yW (j5 old h n) a with
   |none=>none
   |some a'=>match yW (j5 old h n) b with
    |none=>none
    |some b'=>some (.func f a' b'))
  |.iface t v=>(match j5 old h n v with|some w=>some (.iface t w)|none=>none)
  |.agg cs=>(match yW (j5 old h n) cs with|some ds=>some (.agg ds)|none=>none)
  |.tuple cs=>(match yW (j5 old h n) cs with|some ds=>some (.tuple ds)|none=>none)
  |.map _=>none
  |x=>some x
theorem mR{old:Bool}{h:Heap}{f:AV->Option AV}(hf:∀ x y,f x=some y->Fz old h x y):∀ {xs ys:List AV},yW f xs=some ys->lI old h xs ys
 |[],ys,e=>by simp only [yW,Option.some.injEq] at e;subst e;exact .nil
 |x :: xs,ys,e=>by
  simp only [yW] at e;split at e
  ·cases e
  ·rename_i y hy;split at e
   ·cases e
   ·rename_i WO Xk;cases e;exact .cons (hf _ _ hy) (mR hf Xk)
theorem qS{old:Bool}{h:Heap}:∀ (n:Nat) (x y:AV),j5 old h n x=some y->Fz old h x y
 |0,x,y,e=>by cases e
 |n+1,x,y,e=>by
  have ih:=fun x y=>qS (old:=old) (h:=h) n x y;cases x<;>simp only [j5,Option.some.injEq,reduceCtorEq] at e
  case undef=>subst e;exact .scalar _ rfl
  case bool=>subst e;exact .scalar _ rfl
  case int=>subst e;exact .scalar _ rfl
  case str=>subst e;exact .scalar _ rfl
  case ey=>subst e;exact .scalar _ rfl
  case ay=>subst e;exact .scalar _ rfl
  case jJ=>subst e;exact .scalar _ rfl
  case m8=>subst e;exact .scalar _ rfl
  case pL=>subst e;exact .scalar _ rfl
  case ptr b off=>
   split at e
   ·rename_i cs hb;split at e
    ·rename_i ds hd;cases e;have:=mR ih hd;exact .ptr b off cs ds hb this.len this.rel
    ·cases e
   ·cases e
  case slice b off len sz=>
   split at e
   ·rename_i cs hb;split at e
    ·rename_i ds hd;cases e;have:=mR ih hd;exact .slice b off len sz cs ds hb this.len this.rel
    ·cases e
   ·cases e
  case dQ cs off=>
   cases ho:old with
   |false=>rw [ho] at e;cases e
   |true=>
    rw [<- ho];rw [ho] at e;simp only at e;split at e
    ·rename_i ds hd;cases e;rw [<- ho] at hd;have:=mR ih hd;exact .dQ cs ds off ho this.len this.rel
    ·cases e
  case ax cs off len sz=>
   cases ho:old with
   |false=>rw [ho] at e;cases e
   |true=>
    rw [<- ho];rw [ho] at e;simp only at e;split at e
    ·rename_i ds hd;cases e;rw [<- ho] at hd;have:=mR ih hd;exact .ax cs ds off len sz ho this.len this.rel
    ·cases e
  case func f a b=>
   split at e
   ·cases e
   ·rename_i a' ha;split at e
    ·cases e
    ·rename_i b' hb;cases e;have h1:=mR ih ha;have h2:=mR ih hb;exact .func f a b a' b' h1.len h2.len h1.rel h2.rel
  case iface t v=>
   split at e
   ·rename_i w hw;cases e;exact .iface t v w (ih _ _ hw)
   ·cases e
  case agg cs=>
   split at e
   ·rename_i ds hd;cases e;have:=mR ih hd;exact .agg cs ds this.len this.rel
   ·cases e
  case tuple cs=>
   split at e
   ·rename_i ds hd;cases e;have:=mR ih hd;exact .tuple cs ds this.len this.rel
   ·cases e
def cC(old:Bool)(n:Nat)(r:AV):Out->Heap->Bool
 |.ret v,h=>(match j5 old h n v with|some r'=>AV.beq r' r|none=>false)
 |_,_=>false
def iU(a0:List AV)(r:AV):List AV->Heap->(Out->Heap->Bool)->Bool:=fun args h K=>
 AV.xk args a0&&K (.ret r) h
def dI(n:Nat)(a0:List AV)(r:AV):List AV->Heap->(Out->Heap->Bool)->Bool:=fun args h K=>
 match yW (j5 true h n) args with
 |some as=>AV.xk as a0&&K (.ret r) h
 |none=>false
theorem cK{P:Program}{call:jK}(hs:fS P call){f:FuncId}{a0:List AV}{n:Nat}{r:AV}(hp:AV.cO a0=true)(he:call f a0 Heap.empty (cC true n r)=true)
  (args:List AV) (h:Heap) (K:Out->Heap->Bool) (hK:iU a0 r args h K=true):Sem P f args h K:=by
 simp only [iU,and_eq_true] at hK;obtain rfl:=AV.nB _ _ hK.1;refine Sem.frozen (hs.Uk he) hp fun o h' ho=>?_
 cases o with
 |ret v=>
  simp only [cC] at ho;split at ho
  ·rename_i r' hr;obtain rfl:=AV.beq_eq _ _ ho;exact ⟨v,_,rfl,qS _ _ _ hr,hK.2⟩
  ·cases ho
 |panic v=>cases ho
theorem bh{P:Program}{call:jK}(hs:fS P call){f:FuncId}{a0:List AV}{n m:Nat}{r:AV}(he:call f a0 Heap.empty (cC false n r)=true)
  (args:List AV) (h:Heap) (K:Out->Heap->Bool) (hK:dI m a0 r args h K=true):Sem P f args h K:=by
 unfold dI at hK;split at hK
 ·rename_i as ha;simp only [and_eq_true] at hK;obtain rfl:=AV.nB _ _ hK.1;refine Sem.Vk (hs.Uk he) (mR (fun x y=>qS m x y) ha) fun o h' ho=>?_
  cases o with
  |ret v=>
   simp only [cC] at ho;split at ho
   ·rename_i r' hr;obtain rfl:=AV.beq_eq _ _ ho;exact ⟨v,_,rfl,qS _ _ _ hr,hK.2⟩
   ·cases ho
  |panic v=>cases ho
 ·cases hK
end
end Go.AM