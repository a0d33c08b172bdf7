/- Parts of a proof, merged out of smaller texts: the abstract machine and what functions do. Conditions: none. -/
import Derived.Test.YtmkffehchicgaaaGreatCh7
import Derived.LoopN
set_option linter.unusedSimpArgs false
set_option linter.unusedVariables false
namespace Go.AM
open Go Go.RowKit
inductive Po (w0:World) (μ:Mu):AX→Exit→Prop where
 |normal:Po w0 μ .normal .normal
 |exit (id:Nat):Po w0 μ (.exit id) (.exit id)
 |ret:Po w0 μ .ret .ret
 |panic (v:AV) (vc:Value) (h:VR w0 μ v vc):Po w0 μ (.panic v) (.panic [{ v:=vc,recovered:=false }])
def tR(w0:World)(μ:Mu)(h:ag)(w:World)(K:AX→St→Bool)(Q:Exit→Act→World→Prop):Prop:=
 ∀ (e:AX) (ex:Exit) (s':St) (a':Act) (w':World) (μ':Mu),K e s'=true→Po w0 μ' e ex→SR w0 μ' s' a' w'→Ext μ h w μ' s'.h w'→Q ex a' w'
section
variable {P:Program} {w0 w:World} {μ μ':Mu} {h h':ag} {s:St} {a:Act}
theorem tR.after{K:AX→St→Bool}{Q:Exit→Act→World→Prop}(hl:tR w0 μ h w K Q){w':World}(hx:Ext μ h w μ' h' w'):tR w0 μ' h' w' K Q:=
 fun e ex s2 a2 w2 μ2 k2 q2 r2 x2=>hl e ex s2 a2 w2 μ2 k2 q2 r2 (hx.trans x2)
theorem EV(env:Env):∀ (n i t:Nat),aF (GF env n i) t=if t<n then env (i+t) else bD
 |0,i,t=>by simp [GF,aF]
 |n+1,i,t=>by
  cases t with
  |zero=>simp [GF,aF]
  |succ t=>
   simp only [GF,aF,EV env n (i+1) t]
   rw [show i+1+t=i+(t+1) by omega]
   by_cases h:t<n
   ·rw [if_pos h,if_pos (by omega)]
   ·rw [if_neg h,if_neg (by omega)]
theorem SR.J3(hs:SR w0 μ s a w):SR w0 μ s.J3 a w:=by
 refine ⟨⟨hs.env.1,fun t=>?_⟩,hs.defs,hs.good⟩
 show VR w0 μ (aF (GF s.env s.n 0) t) _
 rw [EV]
 by_cases h:t<s.n
 ·rw [if_pos h,Nat.zero_add];exact hs.env.2 t
 ·rw [if_neg h]
  have:a.tmps.getD t undef=undef:=by
   have h1:=hs.env.1
   rw [Array.getD_eq_getD_getElem?,Array.getElem?_eq_none (by omega)];rfl
  rw [this];exact VR.bD
theorem HX(hm:P.follows .mixedOrders=true){call:gW}(hc:fE P call)(rounds:Nat):∀ (c:Code) (s:St) (a:Act) (w:World) (μ:Mu) (K:AX→St→Bool) (Q:Exit→Act→World→Prop),SR w0 μ s a w →
  tR w0 μ s.h w K Q→evalCode P call rounds c s K=true→c.wp P Q a w:=by
 intro c
 induction c with
 |skip=>intro s a w μ K Q hs hl h;exact wp_skip (hl _ _ _ _ _ _ h .normal hs (Ext.refl _ _ _))
 |region id ops draw=>
  intro s a w μ K Q hs hl h
  simp only [evalCode] at h
  cases draw with
  |true=>
   rw [if_pos rfl] at h
   obtain ⟨plan,hp,h⟩:=fc h
   exact HW hm hc hp hs (fun s' a' w' μ' hK hs' hx=>hl _ _ _ _ _ _ hK .normal hs' hx) h
  |false=>
   simp only [Bool.false_eq_true,if_false] at h
   refine wp_region ?_
   have:=GS (Q:=Q) hc ops.toList 0 s a w μ (fun j o hj=>by rw [Nat.zero_add];simpa using hj) hs ⟨fun s' a' w' μ' hK hs' hx=>hl _ _ _ _ _ _ hK .normal hs' hx,fun v vc s' a' w' μ' hK hv hs' hx=>hl _ _ _ _ _ _ hK (.panic v vc hv) hs' hx⟩ h
   rw [List.range_eq_range']
   simpa using this
 |seq x y ihx ihy=>
  intro s a w μ K Q hs hl h
  simp only [evalCode] at h
  refine wp_seq (ihx s a w μ _ _ hs (fun e ex s' a' w' μ' hK hq hs' hx=>?_) h)
  cases hq with
  |normal=>exact ihy s' a' w' μ' K Q hs' (hl.after hx) hK
  |exit id=>exact hl _ _ _ _ _ _ hK (.exit id) hs' hx
  |ret=>exact hl _ _ _ _ _ _ hK .ret hs' hx
  |panic v vc hv=>exact hl _ _ _ _ _ _ hK (.panic v vc hv) hs' hx
 |cond c x y ihx ihy=>
  intro s a w μ K Q hs hl h
  simp only [evalCode] at h
  have hcv:=hs.eval c
  split at h
  ·rename_i e
   rw [e] at hcv
   exact wp_cond_true hcv.gJ (ihx s a w μ K Q hs hl h)
  ·rename_i e
   rw [e] at hcv
   exact wp_cond_false hcv.gJ (ihy s a w μ K Q hs hl h)
  ·cases h
 |block id c ih=>
  intro s a w μ K Q hs hl h
  simp only [evalCode] at h
  refine wp_block (ih s a w μ _ _ hs (fun e ex s' a' w' μ' hK hq hs' hx=>?_) h)
  cases hq with
  |normal=>exact hl _ _ _ _ _ _ hK .normal hs' hx
  |exit id'=>
   simp only [Exit.inBlock]
   simp only at hK
   by_cases e:id'=id
   ·rw [if_pos e];rw [if_pos e] at hK;exact hl _ _ _ _ _ _ hK .normal hs' hx
   ·rw [if_neg e];rw [if_neg e] at hK;exact hl _ _ _ _ _ _ hK (.exit id') hs' hx
  |ret=>exact hl _ _ _ _ _ _ hK .ret hs' hx
  |panic v vc hv=>exact hl _ _ _ _ _ _ hK (.panic v vc hv) hs' hx
 |loop c ih=>
  intro s a w μ K Q hs hl h
  simp only [evalCode] at h
  refine wp_loop_rounds rounds ?_
  have key:∀ (n:Nat) (s:St) (a:Act) (w:World) (μ:Mu),SR w0 μ s a w→tR w0 μ s.h w K Q→iter (evalCode P call rounds c) K n s=true→Code.rounds P c Q n a w:=by
   intro n
   induction n with
   |zero=>intro s a w μ hs hl h;cases h
   |succ n ihn=>
    intro s a w μ hs hl h
    simp only [iter] at h
    rw [rounds_succ]
    refine ih s a w μ _ _ hs (fun e ex s' a' w' μ' hK hq hs' hx=>?_) h
    cases hq with
    |normal=>exact ihn s'.J3 a' w' μ' hs'.J3 (hl.after hx) hK
    |exit id=>exact hl _ _ _ _ _ _ hK (.exit id) hs' hx
    |ret=>exact hl _ _ _ _ _ _ hK .ret hs' hx
    |panic v vc hv=>exact hl _ _ _ _ _ _ hK (.panic v vc hv) hs' hx
  exact key rounds s a w μ hs hl h
 |exit id=>intro s a w μ K Q hs hl h;exact wp_exit (hl _ _ _ _ _ _ h (.exit id) hs (Ext.refl _ _ _))
 |ret=>intro s a w μ K Q hs hl h;exact wp_ret (hl _ _ _ _ _ _ h .ret hs (Ext.refl _ _ _))
 |_=>intros;rename_i h;simp [evalCode] at h
def mR(vc:Option Value):FrameMode:=match vc with
 |none=>.returning
 |some v=>.panicking [{ v,recovered:=false }]
inductive BN (w0:World) (μ:Mu):Option AV→Option Value→Prop where
 |none:BN w0 μ none none
 |some {v:AV} {vc:Value} (h:VR w0 μ v vc):BN w0 μ (some v) (some vc)
def z7(P:Program)(D:nK):Prop:=
 ∀ f g,D f=some g→Enters P f∧∀ (args:List AV) (pan:Option AV) (h:ag) (K:Option AV→ag→Bool),g args pan h K=true →
  ∀ (w0:World) (μ:Mu) (w:World) (vs:List Value) (pv:Option Value),Good w0 μ h w→eC w0 μ args vs→BN w0 μ pan pv→CallsD P f vs.toArray (mR pv) w fun
   |.returned _,u',w'=>∃ pan' pv' h' μ',K pan' h'=true∧BN w0 μ' pan' pv'∧settle u'=mR pv'∧Good w0 μ' h' w'∧Ext μ h w μ' h' w'
   |_,_,_=>False
def Cv(tmps:Array Value):ResultVar→Sem Value
 |.tmp t=>pure (tmps.getD t undef)
 |.cell x t=>do loadVar t (← asAddr (tmps.getD x undef))
theorem EW(hs:SR w0 μ s a w){r:ResultVar}{v:AV}(h:zj P s r=some v) :
  ∃ vc,(Cv a.tmps r).run P w = .ok vc w∧VR w0 μ v vc:=by
 cases r with
 |tmp t=>
  simp only [zj,Option.some.injEq] at h
  subst h
  exact ⟨_,by simp only [Cv,Sem.run_pure],hs.env.2 t⟩
 |cell x t=>
  simp only [zj] at h
  split at h
  ·rename_i i hi
   have hx:=hs.env.2 x
   unfold ai at h
   split at h
   ·rename_i b off hxe
    rw [hxe] at hx
    split at h
    ·rename_i cs ho
     generalize hxv:a.tmps.getD x undef=xv at hx
     cases hx
     rename_i k hk
     obtain ⟨vc,h1,h2⟩:=nu hi (hs.good.cells hk ho) h
     exact ⟨vc,by simp only [Cv,hxv,asAddr,Sem.run_bind,Sem.run_pure,Result.andThen_ok,h1],h2⟩
    ·cases h
   ·rename_i cs off hxe
    rw [hxe] at hx
    generalize hxv:a.tmps.getD x undef=xv at hx
    cases hx
    rename_i g o vs hgl hv hl' hr'
    obtain ⟨vc,h1,h2⟩:=nu hi (hs.good.GN hgl hl' hv hr') h
    exact ⟨vc,by simp only [Cv,hxv,asAddr,Sem.run_bind,Sem.run_pure,Result.andThen_ok,h1],h2⟩
   ·cases h
  ·cases h
theorem xE(hs:SR w0 μ s a w):∀ (rs:List ResultVar) (vs:List AV),eL P s rs=some vs →
  ∃ us:List Value,(rs.mapM (Cv a.tmps)).run P w = .ok us w∧eC w0 μ vs us
 |[],vs,h=>by
  simp only [eL,Option.some.injEq] at h
  subst h
  exact ⟨[],by simp,.nil⟩
 |r :: rs,vs,h=>by
  simp only [eL] at h
  split at h
  ·rename_i v vs' h1 h2
   cases h
   obtain ⟨vc,e1,e2⟩:=EW hs h1
   obtain ⟨us,e3,e4⟩:=xE hs rs vs' h2
   exact ⟨vc :: us,by simp only [List.mapM_cons,Sem.run_bind,e1,Result.andThen_ok,e3,Sem.run_pure],.cons e2 e4⟩
  ·cases h
theorem xF(hs:SR w0 μ s a w){fn:Func}{vs:List AV}(h:eL P s fn.results.toList=some vs):∃ vc,(results fn a.tmps).run P w = .ok vc w∧VR w0 μ (oneOf vs) vc:=by
 obtain ⟨us,h1,h2⟩:=xE hs _ _ h
 have hm:(results fn a.tmps).run P w = .ok (if h:us.toArray.size=1 then us.toArray[0] else .tuple us.toArray) w:=by
  have hr:results fn a.tmps=(do let vs ← fn.results.mapM (Cv a.tmps);pure (if h:vs.size=1 then vs[0] else .tuple vs)):=by
   unfold results
   congr 2
  rw [hr,← Array.toArray_toList (xs:=fn.results),List.mapM_toArray]
  simp only [Sem.run_bind,map_eq_pure_bind,h1,Result.andThen_ok,Sem.run_pure]
 refine ⟨_,hm,?_⟩
 cases vs with
 |nil=>obtain rfl:=h2.gI;exact eC.tuple .nil
 |cons v vs=>
  obtain ⟨u,us',rfl,h3,h4⟩:=h2.cons_inv
  cases vs with
  |nil=>obtain rfl:=h4.gI;simpa [oneOf] using h3
  |cons v2 vs=>
   obtain ⟨u2,us2,rfl,h5,h6⟩:=h4.cons_inv
   rw [dif_neg (by simp)]
   exact eC.tuple h2
theorem kZ{D:nK}(hD:z7 P D){fn:Func}{μb:Mu}{hb:ag}{wb:World}{K:Out→ag→Bool}:∀ (ds:List mu) (Ds:List Deferred) (pan:Option AV) (pv:Option Value) (s:St) (a:Act) (w:World) (μ:Mu),
  zW w0 μ s.env s.n a.tmps→uH w0 μ ds Ds→Good w0 μ s.h w→BN w0 μ pan pv→Ext μb hb wb μ s.h w→leave P D fn.results.toList K ds pan s=true →
  Leaves P fn a.tmps (zX w0 μb hb wb K) Ds (mR pv) w
 |[],Ds,pan,pv,s,a,w,μ,he,hd,hg,hp,hx,h=>by
  cases hd
  have hs:SR w0 μ ⟨s.env,s.n,[],s.h⟩ ⟨a.tmps,[]⟩ w:=⟨he,.nil,hg⟩
  cases hp with
  |none=>
   simp only [leave] at h
   obtain ⟨vs,h1,h2⟩:=fc h
   have h1':eL P ⟨s.env,s.n,[],s.h⟩ fn.results.toList=some vs:=by
    rw [← h1]
    have:∀ rs:List ResultVar,eL P ⟨s.env,s.n,[],s.h⟩ rs=eL P s rs:=by
     intro rs
     induction rs with
     |nil=>rfl
     |cons r rs ih=>simp only [eL,ih];cases r<;>rfl
    exact this _
   obtain ⟨vc,h3,h4⟩:=xF hs h1'
   exact ⟨vc,h3,_,_,_,h2,h4,hg,hx⟩
  |some hv=>
   simp only [leave] at h
   exact ⟨_,_,_,_,h,rfl,hv,hg,hx⟩
 |d :: ds,Ds,pan,pv,s,a,w,μ,he,hd,hg,hp,hx,h=>by
  cases hd with
  |cons hdr ht=>
   obtain ⟨cap,args,rfl,r1,r2⟩:=hdr
   simp only [leave] at h
   split at h
   ·rename_i g hg'
    obtain ⟨hen,hsound⟩:=hD d.f g hg'
    have hcd:=hsound _ _ _ _ h w0 μ w (args++cap) pv hg (r1.append r2) hp
    refine ⟨by cases pv<;>simp [mR],.func d.f,cap.toArray,d.f,(args++cap).toArray,rfl,?_,?_⟩
    ·have e:args.toArray++cap.toArray=(args++cap).toArray:=by simp
     simp only [invoke,e,uI hen]
    ·refine CallsD.mono hcd fun e u' w' hR=>?_
     cases e with
     |returned v=>
      obtain ⟨pan',pv',h',μ',hK,hp',hu,hg2,hx2⟩:=hR
      simp only
      rw [hu]
      exact kZ hD ds _ pan' pv' ⟨s.env,s.n,s.defs,h'⟩ a w' μ' (he.mono hx2.mono) (ht.mono hx2.mono) hg2 hp' (hx.trans hx2) hK
     |panicked c=>exact hR.elim
     |outgrown=>exact hR.elim
   ·cases h
theorem vR{args:List AV}{vs:List Value}(h:eC w0 μ args vs){n:Nat}(hn:args.length≤n):zW w0 μ (aF args) n (vs.toArray++Array.replicate (n-vs.toArray.size) undef):=by
 have hl:=h.len
 refine ⟨by simp;omega,fun t=>?_⟩
 have key:∀ (args:List AV) (t:Nat),aF args t=(args[t]?).getD bD:=by
  intro args
  induction args with
  |nil=>intro t;simp [aF]
  |cons x xs ih=>
   intro t
   cases t with
   |zero=>simp [aF]
   |succ t=>simp [aF,ih]
 rw [key]
 by_cases ht:t<args.length
 ·have h1:args[t]?=some args[t]:=List.getElem?_eq_getElem ht
  obtain ⟨v,h2,h3⟩:=h.get h1
  rw [h1]
  have:(vs.toArray++Array.replicate (n-vs.toArray.size) undef).getD t undef=v:=by
   rw [Array.getD_eq_getD_getElem?,Array.getElem?_append_left (by simp;omega)]
   simp [h2]
  rw [this];exact h3
 ·rw [List.getElem?_eq_none (by omega)]
  have:(vs.toArray++Array.replicate (n-vs.toArray.size) undef).getD t undef=undef:=by
   rw [Array.getD_eq_getD_getElem?,Array.getElem?_append_right (by simp;omega),Array.getElem?_replicate]
   split<;>rfl
  rw [this];exact VR.bD
def k8(P:Program)(F:xm):Prop:=
 ∀ f g,F f=some g→∀ args h K,g args h K=true→Enters P f∧∀ (w0:World) (μ:Mu) (w:World) (vs:List Value),Good w0 μ h w→eC w0 μ args vs→Calls P f vs.toArray w (zX w0 μ h w K)
theorem jj(hm:P.follows .mixedOrders=true){F:xm}{D:nK}(hF:k8 P F)(hD:z7 P D):∀ n,fE P (bN P F D n)
 |0=>fun f args h K hh=>by cases hh
 |n+1=>fun f args h K hh=>by
  simp only [bN] at hh
  split at hh
  ·rename_i g hg;exact hF f g hg args h K hh
  ·split at hh
   ·cases hh
   ·rename_i fn hfn
    split at hh
    ·rename_i hcond
     simp only [Bool.and_eq_true,decide_eq_true_eq,bne_iff_ne,ne_eq] at hcond
     unfold J4 at hh
     split at hh
     ·cases hh
     ·rename_i c hb
      refine ⟨⟨fn,c,hfn,hb,hcond.2⟩,fun w0 μ w vs hg hv=>?_⟩
      refine calls_of_wp_defers hfn hb ?_
      refine HX (w0:=w0) hm (jj hm hF hD n) n c ⟨aF args,fn.ntmps,[],h⟩ _ w μ _ _ ⟨vR hv hcond.1,.nil,hg⟩ (fun e ex s' a' w' μ' hK hq hs' hx=>?_) hh
      cases hq with
      |normal=>exact kZ hD _ _ none none s' a' w' μ' hs'.env hs'.defs hs'.good .none hx hK
      |ret=>exact kZ hD _ _ none none s' a' w' μ' hs'.env hs'.defs hs'.good .none hx hK
      |exit id=>cases hK
      |panic v vc hv=>exact kZ hD _ _ (some v) (some vc) s' a' w' μ' hs'.env hs'.defs hs'.good (.some hv) hx hK
    ·cases hh
end
end Go.AM
namespace Go.AM
open Go Go.RowKit
def LX:List Entry→List Entry→Bool
 |[],[]=>true
 |a :: as,b :: bs=>AV.beq a.1 b.1&&(AV.beq a.2.1 b.2.1&&(Nat.beq a.2.2 b.2.2&&LX as bs))
 |_,_=>false
def ag.Clean(h:ag):Prop:=∀ b,h.next≤b→h.get b=none
theorem ag.qM:ag.empty.Clean:=fun b _=>Trie.zJ b
theorem ag.EX{h:ag}(hc:h.Clean)(o:jG):(h.alloc o).Clean:=fun b hb=>by
 simp at hb
 rw [ag.aV,if_neg (by omega)]
 exact hc b (by omega)
section
variable {P:Program} {w0 w:World} {μ μ':Mu} {h h' h1:ag}
def Mu.bare(μ:Mu):Mu:=⟨fun _=>Option.none,μ.z⟩
def Mu.yh(μ μ':Mu):Mu:=⟨μ.m,μ'.z⟩
theorem Good.nothing(hg:Good w0 μ h w):Good w0 μ.bare ag.empty w:=
 ⟨hg.below,ag.qM,by simp [Mu.bare],by simp [Mu.bare],hg.vp,by simp [Mu.bare],by simp [Mu.bare],by simp [Mu.bare]⟩
theorem Good.around(hg:Good w0 μ h w){w':World}(hg':Good w0 μ' h' w')(hx:Ext μ.bare ag.empty w μ' h' w'):Good w0 (μ.yh μ') h w'∧Ext μ h w (μ.yh μ') h w':=by
 have hf:∀ k,k<w.heap.size→w'.heap[k]?=w.heap[k]?:=fun k hk=>hx.frame k hk (by simp [Mu.bare])
 refine ⟨⟨hg'.below,hg.clean,hg.fresh,fun b k hb=>?_,hg'.vp,fun b k hb=>?_,fun b k o hb ho=>?_,hg.inj⟩,⟨⟨fun _ _ h=>h,hx.mono.vp⟩,fun k hk _=>hf k hk,fun _ _ h=>.inl h,hx.size,Nat.le_refl _,fun _ _ _=>rfl,fun _ _ h=>.inl h,hx.yh⟩⟩
 ·have:=hg.own b k hb;have:=hx.size;omega
 ·show μ'.z k.c=none
  cases hz:μ'.z k.c with
  |none=>rfl
  |some vs=>
   rcases hx.yh _ _ hz with h1|h1
   ·have h1':μ.z k.c=some vs:=h1
    rw [hg.apart b k hb] at h1';cases h1'
   ·have:=(hg.own b k hb).2;omega
 ·have hb':μ b=some k:=hb
  rw [hf _ (hg.own b k hb').2]
  exact nq.mono (μ:=μ) (μ':=μ.yh μ') ⟨fun _ _ h=>h,hx.mono.vp⟩ (hg.obj b k o hb' ho)
def Od(b:Bool):List AV→ag→(Out→ag→Bool)→Bool:=fun args h K=>
 match args with
 |[]=>K (.ret (.bool b)) h
 |_=>false
def Oe(b:Bool):Out→ag→Bool
 |.ret v,_=>AV.beq v (.bool b)
 |_,_=>false
theorem EY{call:gW}(hs:fE P call){f:FuncId}{b:Bool}(he:call f [] ag.empty (Oe b)=true)(args:List AV)(h:ag)(K:Out→ag→Bool)(hK:Od b args h K=true) :
  Enters P f∧∀ (w0:World) (μ:Mu) (w:World) (vs:List Value),Good w0 μ h w→eC w0 μ args vs→Calls P f vs.toArray w (zX w0 μ h w K):=by
 obtain ⟨hen,hc⟩:=hs _ _ _ _ he
 refine ⟨hen,fun w0 μ w vs hg hv=>?_⟩
 unfold Od at hK
 split at hK
 ·obtain rfl:=hv.gI
  refine Calls.mono (hc w0 _ w [] hg.nothing .nil) fun e w' hR=>?_
  cases e with
  |returned vc=>
   obtain ⟨v,h',μ',k1,k2,k3,k4⟩:=hR
   obtain rfl:=AV.beq_eq _ _ k1
   obtain ⟨g1,g2⟩:=hg.around k3 k4
   rw [k2.gJ]
   exact ⟨_,h,μ.yh μ',hK,.bool b,g1,g2⟩
  |panicked c=>
   obtain ⟨v,vc,h',μ',k1,_⟩:=hR
   cases k1
  |outgrown=>exact hR.elim
 ·cases hK
end
end Go.AM
namespace Go.AM
open Go Go.RowKit
section
variable {w0:World} {μ:Mu} {ρ:Nat→Nat}
end
mutual
theorem AV.beq_refl:∀ x:AV,AV.beq x x=true
 |.undef=>rfl
 |.bool a=>by simp [AV.beq]
 |.int k a=>by simp [AV.beq]
 |.str a=>by simp [AV.beq]
 |.nilp=>rfl
 |.ptr a i=>by simp [AV.beq]
 |.iptr a i=>by simp [AV.beq,AV.beqL_refl a]
 |.nils=>rfl
 |.slice b i l s=>by simp [AV.beq]
 |.islice a i l s=>by simp [AV.beq,AV.beqL_refl a]
 |.nilm=>rfl
 |.map a=>by simp [AV.beq]
 |.nilf=>rfl
 |.func f a b=>by simp [AV.beq,AV.beqL_refl a,AV.beqL_refl b]
 |.nili=>rfl
 |.iface t v=>by simp [AV.beq,AV.beq_refl v]
 |.agg a=>by simp [AV.beq,AV.beqL_refl a]
 |.tuple a=>by simp [AV.beq,AV.beqL_refl a]
theorem AV.beqL_refl:∀ x:List AV,AV.beqL x x=true
 |[]=>rfl
 |a :: l=>by simp [AV.beqL,AV.beq_refl a,AV.beqL_refl l]
end
theorem uS:∀ n:Nat,Nat.beq n n=true
 |0=>rfl
 |n+1=>uS n
end Go.AM
namespace Go.AM
def iZ(g1 g2:List AV→ag→(Out→ag→Bool)→Bool):List AV→ag→(Out→ag→Bool)→Bool:=fun args h K=>g1 args h K||g2 args h K
end Go.AM
namespace Go.AM
theorem b7{g1 g2:List AV→ag→(Out→ag→Bool)→Bool}{args:List AV}{h:ag}{K:Out→ag→Bool}(hK:iZ g1 g2 args h K=true):g1 args h K=true∨g2 args h K=true:=by
 simpa [iZ] using hK
end Go.AM
namespace Go.AM
open Go Go.RowKit
noncomputable section
def Sem(P:Program)(f:FuncId)(args:List AV)(h:ag)(K:Out→ag→Bool):Prop:=
 Enters P f∧∀ (w0:World) (μ:Mu) (w:World) (vs:List Value),Good w0 μ h w→eC w0 μ args vs→Calls P f vs.toArray w (zX w0 μ h w K)
theorem zX.mono{w0 w:World}{μ:Mu}{h:ag}{K K':Out→ag→Bool}(hk:∀ o h',K o h'=true→K' o h'=true){e:Ending}{w':World}(hr:zX w0 μ h w K e w'):zX w0 μ h w K' e w':=by
 cases e with
 |returned vc=>obtain ⟨v,h',μ',k1,k2⟩:=hr;exact ⟨v,h',μ',hk _ _ k1,k2⟩
 |panicked c=>obtain ⟨v,vc,h',μ',k1,k2⟩:=hr;exact ⟨v,vc,h',μ',hk _ _ k1,k2⟩
 |outgrown=>exact hr.elim
theorem Sem.mono{P:Program}{f:FuncId}{args:List AV}{h:ag}{K K':Out→ag→Bool}(hs:Sem P f args h K)(hk:∀ o h',K o h'=true→K' o h'=true):Sem P f args h K':=
 ⟨hs.1,fun w0 μ w vs hg hv=>(hs.2 w0 μ w vs hg hv).mono fun _ _ hr=>hr.mono hk⟩
def ah(P:Program):gW:=fun f args h K=>@decide (Sem P f args h K) (Classical.propDecidable _)
theorem tr(P:Program):fE P (ah P):=fun f args h K hh=>@of_decide_eq_true _ (Classical.propDecidable _) hh
theorem ak{P:Program}{f:FuncId}{args:List AV}{h:ag}{K:Out→ag→Bool}(hs:Sem P f args h K):ah P f args h K=true:=@decide_eq_true _ (Classical.propDecidable _) hs
theorem fE.sem{P:Program}{call:gW}(hc:fE P call){f:FuncId}{args:List AV}{h:ag}{K:Out→ag→Bool}(hh:call f args h K=true):Sem P f args h K:=hc f args h K hh
def yes(p:Prop):Bool:=@decide p (Classical.propDecidable _)
theorem cw{p:Prop}:yes p=true↔p:=@decide_eq_true_iff p (Classical.propDecidable _)
theorem HY:∃ r:(St→(AX→St→Bool)→Bool)→St→(AX→St→Bool)→Bool,∀ f s K,r f s K=f s K:=⟨fun f s K=>f s K,fun _ _ _=>rfl⟩
def IN:(St→(AX→St→Bool)→Bool)→St→(AX→St→Bool)→Bool:=Classical.choose HY
theorem uT(f:St→(AX→St→Bool)→Bool)(s:St)(K:AX→St→Bool):IN f s K=f s K:=Classical.choose_spec HY f s K
def cI(j:Bool)(b:St→(AX→St→Bool)→Bool)(K:AX→St→Bool):AX→St→Bool
 |.normal,s'=>@Bool.rec (fun _=>Bool) (b s' K) (IN b s' K) j
 |.exit id,s'=>K (.exit id) s'
 |.ret,s'=>K .ret s'
 |.panic v,s'=>K (.panic v) s'
theorem EZ(j:Bool)(b:St→(AX→St→Bool)→Bool)(K:AX→St→Bool)(s:St):cI j b K .normal s=b s K:=by
 cases j
 ·rfl
 ·exact uT b s K
def aX(id:Nat)(K:AX→St→Bool):AX→St→Bool
 |.normal,s'=>K .normal s'
 |.exit id',s'=>@Bool.rec (fun _=>Bool) (K (.exit id') s') (K .normal s') (Nat.beq id' id)
 |.ret,s'=>K .ret s'
 |.panic v,s'=>K (.panic v) s'
def ax(x:AV)(a b:Bool):Bool:=
 match x with
 |.bool t=>@Bool.rec (fun _=>Bool) b a t
 |_=>false
def Cw(I:Nat→St→Prop)(n:Nat)(K:AX→St→Bool):AX→St→Bool
 |.normal,s'=>yes (∃ m,m<n∧I m s')
 |.exit id,s'=>K (.exit id) s'
 |.ret,s'=>K .ret s'
 |.panic v,s'=>K (.panic v) s'
def bT(f:St→(AX→St→Bool)→Bool)(s:St)(K:AX→St→Bool):Bool:=
 yes (∃ I:Nat→St→Prop,(∃ n,I n s)∧∀ n s',I n s'→f s' (Cw I n K)=true)
def HZ(ops:List Oper)(j:Nat):Option Tmp:=match ops[j]? with|some g=>g.dst|none=>none
def Kn(j:Nat):List Nat→Bool
 |[]=>false
 |k :: ks=>@Bool.rec (fun _=>Bool) (Kn j ks) true (Nat.beq j k)
def ja(P:Program)(call:gW)(ops:List Oper):List Oper→Nat→List Nat→St→(RS→Bool)→Bool
 |[],_,_,s,K=>K (.ok s)
 |o :: rest,i,sk,⟨env,n,defs,h⟩,K=>
  match o.guard with
  |none=>iA o.op P call env defs h fun
   |.ok v defs h=>gG env n o.dst v fun env=>ja P call ops rest (i+1) sk ⟨env,n,defs,h⟩ K
   |.panic v h=>K (.panic v ⟨env,n,defs,h⟩)
  |some (j,want)=>match HZ ops j with
   |none=>false
   |some d=>@Bool.rec (fun _=>Bool)
    (ax (env d)
     (@Bool.rec (fun _=>Bool) (gG (aa env d (.bool true)) n o.dst bD fun env=>ja P call ops rest (i+1) (i :: sk) ⟨env,n,defs,h⟩ K)
      (iA o.op P call (aa env d (.bool true)) defs h fun
       |.ok v defs h=>gG (aa env d (.bool true)) n o.dst v fun env=>ja P call ops rest (i+1) sk ⟨env,n,defs,h⟩ K
       |.panic v h=>K (.panic v ⟨aa env d (.bool true),n,defs,h⟩)) want)
     (@Bool.rec (fun _=>Bool) (iA o.op P call (aa env d (.bool false)) defs h fun
       |.ok v defs h=>gG (aa env d (.bool false)) n o.dst v fun env=>ja P call ops rest (i+1) sk ⟨env,n,defs,h⟩ K
       |.panic v h=>K (.panic v ⟨aa env d (.bool false),n,defs,h⟩))
      (gG (aa env d (.bool false)) n o.dst bD fun env=>ja P call ops rest (i+1) (i :: sk) ⟨env,n,defs,h⟩ K) want))
    (match env d with
     |.tuple _=>gG env n o.dst bD fun env=>ja P call ops rest (i+1) (i :: sk) ⟨env,n,defs,h⟩ K
     |_=>false) (Kn j sk)
def dH(P:Program)(call:gW)(ops:List Oper)(ms:List Nat):List (Nat×Oper)→List Read→List Nat→St→(St→Bool)→Bool
 |[],_,_,s,K=>K s
 |p :: rest,lg,sk,⟨env,n,defs,h⟩,K=>
  @Option.rec (Nat×Bool) (fun _=>Bool)
   (match eR p.2.op with
   |.pure=>fX p.2.op P (evalArg env) h fun v _=>gG env n p.2.dst v fun env'=>dH P call ops ms rest lg sk ⟨env',n,defs,h⟩ K
   |.read=>fX p.2.op P (evalArg env) h fun v _=>gG env n p.2.dst v fun env'=>dH P call ops ms rest (⟨p.1,p.2.op,env,v⟩ :: lg) sk ⟨env',n,defs,h⟩ K
   |.alloc=>fX p.2.op P (evalArg env) h fun v h'=>gG env n p.2.dst v fun env'=>dH P call ops ms rest lg sk ⟨env',n,defs,h'⟩ K
   |.eff=>
    iA p.2.op P call env defs h fun
     |.ok v defs' h'=>if iK P ms p.1 h' lg then gG env n p.2.dst v fun env'=>dH P call ops ms rest lg sk ⟨env',n,defs',h'⟩ K else false
     |.panic _ _=>false)
   (fun g=>match HZ ops g.1 with
    |none=>false
    |some d=>@Bool.rec (fun _=>Bool)
     (ax (env d)
      (@Bool.rec (fun _=>Bool) (gG (aa env d (.bool true)) n p.2.dst bD fun env'=>dH P call ops ms rest lg (p.1 :: sk) ⟨env',n,defs,h⟩ K)
       (match eR p.2.op with
       |.pure=>fX p.2.op P (evalArg (aa env d (.bool true))) h fun v _=>gG (aa env d (.bool true)) n p.2.dst v fun env'=>dH P call ops ms rest lg sk ⟨env',n,defs,h⟩ K
       |.read=>fX p.2.op P (evalArg (aa env d (.bool true))) h fun v _=>gG (aa env d (.bool true)) n p.2.dst v fun env'=>dH P call ops ms rest (⟨p.1,p.2.op,aa env d (.bool true),v⟩ :: lg) sk ⟨env',n,defs,h⟩ K
       |.alloc=>fX p.2.op P (evalArg (aa env d (.bool true))) h fun v h'=>gG (aa env d (.bool true)) n p.2.dst v fun env'=>dH P call ops ms rest lg sk ⟨env',n,defs,h'⟩ K
       |.eff=>
        iA p.2.op P call (aa env d (.bool true)) defs h fun
         |.ok v defs' h'=>if iK P ms p.1 h' lg then gG (aa env d (.bool true)) n p.2.dst v fun env'=>dH P call ops ms rest lg sk ⟨env',n,defs',h'⟩ K else false
         |.panic _ _=>false) g.2)
      (@Bool.rec (fun _=>Bool)
       (match eR p.2.op with
       |.pure=>fX p.2.op P (evalArg (aa env d (.bool false))) h fun v _=>gG (aa env d (.bool false)) n p.2.dst v fun env'=>dH P call ops ms rest lg sk ⟨env',n,defs,h⟩ K
       |.read=>fX p.2.op P (evalArg (aa env d (.bool false))) h fun v _=>gG (aa env d (.bool false)) n p.2.dst v fun env'=>dH P call ops ms rest (⟨p.1,p.2.op,aa env d (.bool false),v⟩ :: lg) sk ⟨env',n,defs,h⟩ K
       |.alloc=>fX p.2.op P (evalArg (aa env d (.bool false))) h fun v h'=>gG (aa env d (.bool false)) n p.2.dst v fun env'=>dH P call ops ms rest lg sk ⟨env',n,defs,h'⟩ K
       |.eff=>
        iA p.2.op P call (aa env d (.bool false)) defs h fun
         |.ok v defs' h'=>if iK P ms p.1 h' lg then gG (aa env d (.bool false)) n p.2.dst v fun env'=>dH P call ops ms rest lg sk ⟨env',n,defs',h'⟩ K else false
         |.panic _ _=>false)
       (gG (aa env d (.bool false)) n p.2.dst bD fun env'=>dH P call ops ms rest lg (p.1 :: sk) ⟨env',n,defs,h⟩ K) g.2))
     (match env d with
      |.tuple _=>gG env n p.2.dst bD fun env'=>dH P call ops ms rest lg (p.1 :: sk) ⟨env',n,defs,h⟩ K
      |_=>false) (Kn g.1 sk)) p.2.guard
def SF(K:AX→St→Bool):RS→Bool
 |.ok s'=>K .normal s'
 |.panic v s'=>K (.panic v) s'
def au(P:Program)(call:gW):Code→St→(AX→St→Bool)→Bool
 |.skip,s,K=>K .normal s
 |.region _ ops draw,s,K=>
  @Bool.rec (fun _=>Bool) (ja P call ops.toList ops.toList 0 [] s (SF K))
   (af (EB ops.toList) fun p=>dH P call ops.toList p.ms p.L [] [] s fun s'=>K .normal s') draw
 |.seq a b,s,K=>au P call a s (cI (Oz a b) (au P call b) K)
 |.cond c a b,s,K=>ax (evalArg s.env c) (au P call a s K) (au P call b s K)
 |.block id c,s,K=>au P call c s (aX id K)
 |.loop c,s,K=>bT (au P call c) s K
 |.exit id,s,K=>K (.exit id) s
 |.ret,s,K=>K .ret s
 |_,_,_=>false
theorem r6{env:Env}{d:Nat}{v:AV}(h:env d=v):aa env d v=env:=by
 funext t
 rw [bt]
 by_cases e:t=d
 ·rw [if_pos e,e,h]
 ·rw [if_neg e]
theorem Cx{x:AV}{a b:Bool}(h:ax x a b=true):(x = .bool true∧a=true)∨(x = .bool false∧b=true):=by
 unfold ax at h
 split at h
 ·rename_i t
  cases t
  ·exact .inr ⟨rfl,h⟩
  ·exact .inl ⟨rfl,h⟩
 ·cases h
section
variable {P:Program} {w0 w:World} {μ μ':Mu} {h h':ag} {s:St} {a:Act}
theorem z8{ops:List Oper}{o:Oper}{env:Env}{j:Nat}{want:Bool}{d:Tmp}(hg:o.guard=some (j,want))(hd:HZ ops j=some d) :
  g9 ops o env=(match env d with|.bool b=>some (b==want)|.tuple _=>some false|_=>none):=by
 unfold g9 HZ at *
 rw [hg]
 simp only
 split at hd
 ·rename_i g hj
  rw [hj]
  simp only [hd]
  rfl
 ·cases hd
theorem r7{ρ:Operand→AV}{op:Op}{hp:ag}{K1 K2:AV→ag→Bool}(hk:∀ v h',K1 v h'=true→K2 v h'=true)(hh:fX op P ρ hp K1=true):fX op P ρ hp K2=true:=by
 have val:∀ {o:Option AV},jA hp K1 o=true→jA hp K2 o=true:=by
  intro o h;cases o with
  |none=>exact h
  |some a=>exact hk _ _ h
 have both:∀ {o:Option (AV×ag)},tg K1 o=true→tg K2 o=true:=by
  intro o h;cases o with
  |none=>exact h
  |some a=>exact hk _ _ h
 have heap:∀ {o:Option ag},xk K1 o=true→xk K2 o=true:=by
  intro o h;cases o with
  |none=>exact h
  |some a=>exact hk _ _ h
 have bind:∀ {α:Type} {o:Option α} {f g:α→Bool},(∀ a,f a=true→g a=true)→af o f=true→af o g=true:=by
  intro α o f g hfg h;cases o with
  |none=>exact h
  |some a=>exact hfg _ h
 cases op<;>simp only [fX] at hh ⊢<;>try (first|exact hk _ _ hh|exact val hh|exact both hh|exact heap hh|exact bind (fun _ h=>val h) hh|exact bind (fun _ h=>both h) hh|exact bind (fun _ h=>heap h) hh|exact bind (fun _ h=>hk _ _ h) hh|(exfalso;simp at hh;done))
 case buildSlice t n ps=>unfold oP at hh ⊢;exact bind (fun _ h=>bind (fun _ h=>hk _ _ h) h) hh
 case binOp o t x y u=>
  unfold J1 at hh ⊢
  cases o<;>simp only at hh ⊢<;>first|exact val hh|exact bind (fun _ h=>val h) hh
 case makeFunc fn f c=>
  unfold zG at hh ⊢
  cases fn<;>simp only at hh ⊢<;>first|exact hk _ _ hh|exact hh
 case makeMap t r=>
  unfold Cm at hh ⊢
  cases r<;>simp only at hh ⊢<;>first|exact hk _ _ hh|exact hh
 case slice t x lo hi mx=>
  unfold Dw at hh ⊢
  cases mx<;>simp only at hh ⊢<;>first|exact bind (fun _ h=>val h) hh|exact hh
 case call c=>
  obtain ⟨cal,args,ts⟩:=c
  unfold qF at hh ⊢
  cases cal with
  |value f=>exact hh
  |invoke r m=>exact hh
  |builtin b=>
   simp only at hh ⊢
   cases b<;>simp only [Cn,GC,Bool.false_eq_true] at hh ⊢
   case append=>
    unfold vI at hh ⊢
    split at hh
    ·exact bind (fun _ h=>both h) hh
    ·exact hh
   case copy=>
    unfold Dx at hh ⊢
    split at hh
    ·exact bind (fun _ h=>both h) hh
    ·exact hh
   case len=>
    unfold GB at hh ⊢
    split at hh
    ·exact bind (fun _ h=>val h) hh
    ·exact hh
   case delete=>
    unfold vJ at hh ⊢
    split at hh
    ·exact bind (fun _ h=>heap h) hh
    ·exact hh
   case min=>
    unfold rS at hh ⊢
    split at hh
    ·exact val hh
    ·exact hh
   case max=>
    unfold rS at hh ⊢
    split at hh
    ·exact val hh
    ·exact hh
theorem E0{op:Op}{env:Env}{defs:List mu}{hp:ag}{K1 K2:R→Bool}(hk:∀ r,K1 r=true→K2 r=true)(hh:iA op P (ah P) env defs hp K1=true):iA op P (ah P) env defs hp K2=true:=by
 have plain:∀ {op:Op},nt op P (ah P) env defs hp K1=true→nt op P (ah P) env defs hp K2=true:=fun h=>r7 (fun _ _ h=>hk _ h) h
 cases op<;>simp only [iA] at hh ⊢<;>try exact plain hh
 case call c=>
  obtain ⟨cal,args,ts⟩:=c
  cases cal with
  |builtin b=>exact plain hh
  |invoke r m=>exact plain hh
  |value f=>
   simp only [tJ,zc] at hh ⊢
   split at hh
   ·refine ak ((tr P).sem hh |>.mono fun o h' h=>?_)
    cases o<;>exact hk _ h
   ·exact hh
 case defer c=>
  obtain ⟨cal,args,ts⟩:=c
  cases cal with
  |builtin b=>exact hh
  |invoke r m=>exact hh
  |value f=>
   simp only [uz] at hh ⊢
   split at hh
   ·exact hk _ hh
   ·exact hh
 case panic x=>
  simp only [uB] at hh ⊢
  split at hh
  ·exact hk _ hh
  ·exact hh
 case next x b=>
  simp only [Dy] at hh ⊢
  generalize uy b (evalArg env x) hp=o at hh ⊢
  cases o with
  |none=>exact hh
  |some L=>
   simp only [af] at hh ⊢
   induction L with
   |nil=>rfl
   |cons p L ih=>
    simp only [kr,Bool.and_eq_true] at hh ⊢
    exact ⟨hk _ hh.1,ih hh.2⟩
theorem nY{env:Env}{n:Nat}{dst:Option Tmp}{v:AV}{k1 k2:Env→Bool}(hk:∀ e,k1 e=true→k2 e=true)(hh:gG env n dst v k1=true):gG env n dst v k2=true:=by
 cases dst with
 |none=>exact hk _ hh
 |some d=>
  simp only [gG] at hh ⊢
  cases hb:Nat.ble (d+1) n with
  |false=>rw [hb] at hh;cases hh
  |true=>rw [hb] at hh;exact hk _ hh
theorem jk{ops:List Oper}{ms:List Nat}{K:St→Bool}:∀ (L:List (Nat×Oper)) (lg:List Read) (sk:List Nat) (s:St),dH P (ah P) ops ms L lg sk s K=true→eZ P (ah P) ops ms L lg s K=true
 |[],lg,sk,s,hh=>hh
 |p :: rest,lg,sk,⟨env,n,defs,hp⟩,hh=>by
  have goes:(match eR p.2.op with
   |.pure=>fX p.2.op P (evalArg env) hp fun v _=>gG env n p.2.dst v fun env'=>dH P (ah P) ops ms rest lg sk ⟨env',n,defs,hp⟩ K
   |.read=>fX p.2.op P (evalArg env) hp fun v _=>gG env n p.2.dst v fun env'=>dH P (ah P) ops ms rest (⟨p.1,p.2.op,env,v⟩ :: lg) sk ⟨env',n,defs,hp⟩ K
   |.alloc=>fX p.2.op P (evalArg env) hp fun v h'=>gG env n p.2.dst v fun env'=>dH P (ah P) ops ms rest lg sk ⟨env',n,defs,h'⟩ K
   |.eff=>
    iA p.2.op P (ah P) env defs hp fun
     |.ok v defs' h'=>if iK P ms p.1 h' lg then gG env n p.2.dst v fun env'=>dH P (ah P) ops ms rest lg sk ⟨env',n,defs',h'⟩ K else false
     |.panic _ _=>false)=true→(match eR p.2.op with
   |.pure=>fX p.2.op P (evalArg env) hp fun v _=>gG env n p.2.dst v fun env'=>eZ P (ah P) ops ms rest lg ⟨env',n,defs,hp⟩ K
   |.read=>fX p.2.op P (evalArg env) hp fun v _=>gG env n p.2.dst v fun env'=>eZ P (ah P) ops ms rest (⟨p.1,p.2.op,env,v⟩ :: lg) ⟨env',n,defs,hp⟩ K
   |.alloc=>fX p.2.op P (evalArg env) hp fun v h'=>gG env n p.2.dst v fun env'=>eZ P (ah P) ops ms rest lg ⟨env',n,defs,h'⟩ K
   |.eff=>
    iA p.2.op P (ah P) env defs hp fun
     |.ok v defs' h'=>if iK P ms p.1 h' lg then gG env n p.2.dst v fun env'=>eZ P (ah P) ops ms rest lg ⟨env',n,defs',h'⟩ K else false
     |.panic _ _=>false)=true:=by
   intro h
   cases hk:eR p.2.op<;>rw [hk] at h<;>simp only at h ⊢
   ·exact r7 (fun v h' h=>nY (fun e h=>jk rest _ _ _ h) h) h
   ·exact r7 (fun v h' h=>nY (fun e h=>jk rest _ _ _ h) h) h
   ·exact r7 (fun v h' h=>nY (fun e h=>jk rest _ _ _ h) h) h
   ·refine E0 (fun r h=>?_) h
    cases r with
    |ok v defs' h'=>
     simp only at h ⊢
     split at h
     ·rename_i hs;rw [if_pos hs];exact nY (fun e h=>jk rest _ _ _ h) h
     ·cases h
    |panic v h'=>cases h
  have skips:∀ sk',(gG env n p.2.dst bD fun env'=>dH P (ah P) ops ms rest lg sk' ⟨env',n,defs,hp⟩ K)=true→(gG env n p.2.dst bD fun env'=>eZ P (ah P) ops ms rest lg ⟨env',n,defs,hp⟩ K)=true:=
   fun sk' h=>nY (fun e h=>jk rest _ _ _ h) h
  simp only [dH] at hh
  simp only [eZ]
  cases hg:p.2.guard with
  |none=>
   rw [hg] at hh
   have hw:g9 ops p.2 env=some true:=by unfold g9;rw [hg]
   rw [hw]
   exact goes hh
  |some g=>
   obtain ⟨j,want⟩:=g
   rw [hg] at hh
   simp only at hh
   split at hh
   ·cases hh
   ·rename_i d hd
    have hwa:=z8 (env:=env) hg hd
    cases hm:Kn j sk with
    |true=>
     rw [hm] at hh
     simp only at hh
     split at hh
     ·rename_i vs hv
      rw [hv] at hwa
      rw [hwa]
      exact skips _ hh
     ·cases hh
    |false=>
     rw [hm] at hh
     simp only at hh
     rcases Cx hh with ⟨hv,hh⟩|⟨hv,hh⟩
     ·rw [hv] at hwa
      rw [r6 hv] at hh
      rw [hwa]
      cases want with
      |true=>exact goes hh
      |false=>exact skips _ hh
     ·rw [hv] at hwa
      rw [r6 hv] at hh
      rw [hwa]
      cases want with
      |true=>exact skips _ hh
      |false=>exact goes hh
theorem DH{call:gW}(hc:fE P call){ops:Array Oper}{K:RS→Bool}{Q:Exit→Act→World→Prop}:∀ (l:List Oper) (i:Nat) (sk:List Nat) (s:St) (a:Act) (w:World) (μ:Mu),(∀ j o,l[j]?=some o→ops[i+j]?=some o) →
  SR w0 μ s a w→(hl:vQ w0 μ s.h w K Q)→ja P call ops.toList l i sk s K=true→wpOps P ops Q (List.range' i l.length) a w
 |[],i,sk,s,a,w,μ,hi,hs,hl,h=>by
  simp only [List.length_nil,List.range'_zero,wpOps]
  exact hl.ok _ _ _ _ h hs (Ext.refl _ _ _)
 |o :: rest,i,sk,s,a,w,μ,hi,hs,hl,h=>by
  have hio:ops[i]?=some o:=by simpa using hi 0 o rfl
  obtain ⟨env,n,defs,hp⟩:=s
  simp only [List.length_cons,List.range'_succ,wpOps,hio]
  have hi':∀ j o',rest[j]?=some o'→ops[i+1+j]?=some o':=fun j o' hj=>by
   have:=hi (j+1) o' (by simpa using hj)
   rwa [show i+1+j=i+(j+1) by omega]
  have goes:g9 ops.toList o env=some true→(iA o.op P call env defs hp fun
       |.ok v defs h=>gG env n o.dst v fun env=>ja P call ops.toList rest (i+1) sk ⟨env,n,defs,h⟩ K
       |.panic v h=>K (.panic v ⟨env,n,defs,h⟩))=true →
    (if Region.wanted o (yielded ops a.tmps) then o.wp P a w (wpOps P ops Q (List.range' (i+1) rest.length)) Q∨(o.asks P a w∧LetsOut Q) else wpOps P ops Q (List.range' (i+1) rest.length) (a.put o.dst undef) w):=by
   intro hw hh
   rw [jS hs.env hw,if_pos rfl]
   refine .inl (zk hs hc ⟨fun v defs' h' a' w' μ' hK hs' hx=>?_,fun v vc h' w' μ' hK hv hs' hx=>?_⟩ hh)
   ·exact DH hc rest (i+1) sk _ a' w' μ' hi' hs' (hl.after hx) (jO hK)
   ·exact hl.panic v vc _ a w' μ' hK hv hs' hx
  have skips:g9 ops.toList o env=some false→(gG env n o.dst bD fun env=>ja P call ops.toList rest (i+1) (i :: sk) ⟨env,n,defs,hp⟩ K)=true →
    (if Region.wanted o (yielded ops a.tmps) then o.wp P a w (wpOps P ops Q (List.range' (i+1) rest.length)) Q∨(o.asks P a w∧LetsOut Q) else wpOps P ops Q (List.range' (i+1) rest.length) (a.put o.dst undef) w):=by
   intro hw hh
   rw [jS hs.env hw]
   simp only [Bool.false_eq_true,if_false]
   have hs':=hs.left o.dst (h':=hp) VR.bD hs.good (Mu.le.refl μ)
   exact DH hc rest (i+1) (i :: sk) ⟨kK env n o.dst bD,n,defs,hp⟩ _ w μ hi' hs' hl (jO hh)
  simp only [ja] at h
  split at h
  ·rename_i hg
   exact goes (by unfold g9;rw [hg]) h
  ·rename_i j want hg
   split at h
   ·cases h
   ·rename_i d hd
    have hwa:=z8 (env:=env) hg hd
    cases hm:Kn j sk with
    |true=>
     rw [hm] at h
     simp only at h
     split at h
     ·rename_i vs hv
      rw [hv] at hwa
      exact skips hwa h
     ·cases h
    |false=>
     rw [hm] at h
     simp only at h
     rcases Cx h with ⟨hv,h⟩|⟨hv,h⟩
     ·rw [hv] at hwa
      rw [r6 hv] at h
      cases want with
      |true=>exact goes hwa h
      |false=>exact skips hwa h
     ·rw [hv] at hwa
      rw [r6 hv] at h
      cases want with
      |true=>exact skips hwa h
      |false=>exact goes hwa h
theorem Ko(hm:P.follows .mixedOrders=true):∀ (c:Code) (s:St) (a:Act) (w:World) (μ:Mu) (K:AX→St→Bool) (Q:Exit→Act→World→Prop),SR w0 μ s a w →
  tR w0 μ s.h w K Q→au P (ah P) c s K=true→c.wp P Q a w:=by
 have hc:=tr P
 intro c
 induction c with
 |skip=>intro s a w μ K Q hs hl h;exact wp_skip (hl _ _ _ _ _ _ h .normal hs (Ext.refl _ _ _))
 |region id ops draw=>
  intro s a w μ K Q hs hl h
  simp only [au] at h
  cases draw with
  |true=>
   simp only at h
   obtain ⟨plan,hp,h⟩:=fc h
   exact HW hm hc hp hs (fun s' a' w' μ' hK hs' hx=>hl _ _ _ _ _ _ hK .normal hs' hx) (jk _ _ _ _ h)
  |false=>
   simp only at h
   refine wp_region ?_
   have:=DH (Q:=Q) hc ops.toList 0 [] s a w μ (fun j o hj=>by rw [Nat.zero_add];simpa using hj) hs ⟨fun s' a' w' μ' hK hs' hx=>hl _ _ _ _ _ _ hK .normal hs' hx,fun v vc s' a' w' μ' hK hv hs' hx=>hl _ _ _ _ _ _ hK (.panic v vc hv) hs' hx⟩ h
   rw [List.range_eq_range']
   simpa using this
 |seq x y ihx ihy=>
  intro s a w μ K Q hs hl h
  simp only [au] at h
  refine wp_seq (ihx s a w μ _ _ hs (fun e ex s' a' w' μ' hK hq hs' hx=>?_) h)
  cases hq with
  |normal=>exact ihy s' a' w' μ' K Q hs' (hl.after hx) (by rw [EZ] at hK;exact hK)
  |exit id=>exact hl _ _ _ _ _ _ hK (.exit id) hs' hx
  |ret=>exact hl _ _ _ _ _ _ hK .ret hs' hx
  |panic v vc hv=>exact hl _ _ _ _ _ _ hK (.panic v vc hv) hs' hx
 |cond c x y ihx ihy=>
  intro s a w μ K Q hs hl h
  simp only [au,ax] at h
  have hcv:=hs.eval c
  split at h
  ·rename_i t e
   rw [e] at hcv
   cases t with
   |true=>exact wp_cond_true hcv.gJ (ihx s a w μ K Q hs hl h)
   |false=>exact wp_cond_false hcv.gJ (ihy s a w μ K Q hs hl h)
  ·cases h
 |block id c ih=>
  intro s a w μ K Q hs hl h
  simp only [au] at h
  refine wp_block (ih s a w μ _ _ hs (fun e ex s' a' w' μ' hK hq hs' hx=>?_) h)
  cases hq with
  |normal=>exact hl _ _ _ _ _ _ hK .normal hs' hx
  |exit id'=>
   simp only [Exit.inBlock]
   simp only [aX] at hK
   by_cases e:id'=id
   ·subst e;rw [uS] at hK;rw [if_pos rfl];exact hl _ _ _ _ _ _ hK .normal hs' hx
   ·rw [if_neg e]
    have hb:Nat.beq id' id=false:=by
     cases hq:Nat.beq id' id with
     |false=>rfl
     |true=>exact absurd (Nat.eq_of_beq_eq_true hq) e
    rw [hb] at hK;exact hl _ _ _ _ _ _ hK (.exit id') hs' hx
  |ret=>exact hl _ _ _ _ _ _ hK .ret hs' hx
  |panic v vc hv=>exact hl _ _ _ _ _ _ hK (.panic v vc hv) hs' hx
 |loop c ih=>
  intro s a w μ K Q hs hl h
  simp only [au,bT] at h
  obtain ⟨I,⟨n0,hI0⟩,hstep⟩:=cw.1 h
  refine wp_loop_rounds (n0+1) ?_
  have key:∀ (N n:Nat) (s:St) (a:Act) (w:World) (μ:Mu),SR w0 μ s a w→tR w0 μ s.h w K Q→I n s→n<N→Code.rounds P c Q N a w:=by
   intro N
   induction N with
   |zero=>intro n s a w μ hs hl hi hn;omega
   |succ N ihn=>
    intro n s a w μ hs hl hi hn
    rw [rounds_succ]
    refine ih s a w μ _ _ hs (fun e ex s' a' w' μ' hK hq hs' hx=>?_) (hstep n s hi)
    cases hq with
    |normal=>
     obtain ⟨m,hm1,hm2⟩:=cw.1 hK
     exact ihn m s' a' w' μ' hs' (hl.after hx) hm2 (by omega)
    |exit id=>exact hl _ _ _ _ _ _ hK (.exit id) hs' hx
    |ret=>exact hl _ _ _ _ _ _ hK .ret hs' hx
    |panic v vc hv=>exact hl _ _ _ _ _ _ hK (.panic v vc hv) hs' hx
  exact key (n0+1) n0 s a w μ hs hl hI0 (by omega)
 |exit id=>intro s a w μ K Q hs hl h;exact wp_exit (hl _ _ _ _ _ _ h (.exit id) hs (Ext.refl _ _ _))
 |ret=>intro s a w μ K Q hs hl h;exact wp_ret (hl _ _ _ _ _ _ h .ret hs (Ext.refl _ _ _))
 |_=>intros;rename_i h;simp [au] at h
def cc:nK:=fun _=>none
theorem aM(P:Program):z7 P cc:=fun f g h=>by cases h
theorem aP(hm:P.follows .mixedOrders=true){D:nK}(hD:z7 P D){f:FuncId}{fn:Func}{c:Code}(hfn:P.funcs[f]?=some fn)(hb:fn.body=some c)(hname:fn.name≠ "runtime.NumGoroutine")
  {args:List AV} (hlen:args.length≤fn.ntmps) {h:ag} {K:Out→ag→Bool}
  (hh:au P (ah P) c ⟨aF args,fn.ntmps,[],h⟩ (ay P D fn.results.toList K)=true):Sem P f args h K:=by
 refine ⟨⟨fn,c,hfn,hb,hname⟩,fun w0 μ w vs hg hv=>?_⟩
 refine calls_of_wp_defers hfn hb ?_
 refine Ko (w0:=w0) hm c ⟨aF args,fn.ntmps,[],h⟩ _ w μ _ _ ⟨vR hv hlen,.nil,hg⟩ (fun e ex s' a' w' μ' hK hq hs' hx=>?_) hh
 cases hq with
 |normal=>exact kZ hD _ _ none none s' a' w' μ' hs'.env hs'.defs hs'.good .none hx hK
 |ret=>exact kZ hD _ _ none none s' a' w' μ' hs'.env hs'.defs hs'.good .none hx hK
 |exit id=>cases hK
 |panic v vc hv=>exact kZ hD _ _ (some v) (some vc) s' a' w' μ' hs'.env hs'.defs hs'.good (.some hv) hx hK
end
end
end Go.AM
namespace Go.AM
open Go Go.RowKit
noncomputable section
def AV.scalar:AV→Bool
 |.undef|.bool _|.int _ _|.str _|.nilp|.nils|.nilm|.nilf|.nili=>true
 |_=>false
mutual
def AV.pure:AV→Bool
 |.ptr _ _|.slice _ _ _ _|.map _=>false
 |.iptr cs _=>AV.pureL cs
 |.islice cs _ _ _=>AV.pureL cs
 |.func _ a b=>AV.pureL a&&AV.pureL b
 |.iface _ v=>AV.pure v
 |.agg cs=>AV.pureL cs
 |.tuple cs=>AV.pureL cs
 |_=>true
def AV.pureL:List AV→Bool
 |[]=>true
 |a :: as=>AV.pure a&&AV.pureL as
end
theorem AV.j8:∀ {l:List AV},AV.pureL l=true→∀ {i:Nat} {x:AV},l[i]?=some x→x.pure=true
 |a :: l,h,0,x,e=>by simp [AV.pureL] at h;simp at e;subst e;exact h.1
 |a :: l,h,i+1,x,e=>by simp [AV.pureL] at h;exact AV.j8 h.2 (by simpa using e)
 |[],h,i,x,e=>by simp at e
theorem AV.DI{l m:List AV}(h:AV.pureL l=true)(k:AV.pureL m=true):AV.pureL (l++m)=true:=by
 induction l with
 |nil=>exact k
 |cons a l ih=>simp only [AV.pureL,Bool.and_eq_true,List.cons_append] at h ⊢;exact ⟨h.1,ih h.2⟩
inductive Fz (old:Bool) (h:ag):AV→AV→Prop where
 |scalar (x:AV) (hx:x.scalar=true):Fz old h x x
 |iptr (cs cs':List AV) (off:Nat) (ho:old=true) (hl:cs.length=cs'.length) (hr:∀ (i:Nat) (x y:AV),cs[i]?=some x→cs'[i]?=some y→Fz old h x y):Fz old h (.iptr cs off) (.iptr cs' off)
 |islice (cs cs':List AV) (off len sz:Nat) (ho:old=true) (hl:cs.length=cs'.length) (hr:∀ (i:Nat) (x y:AV),cs[i]?=some x→cs'[i]?=some y→Fz old h x y):Fz old h (.islice cs off len sz) (.islice cs' off len sz)
 |ptr (b off:Nat) (cs cs':List AV) (hb:h.get b=some (.cells cs)) (hl:cs.length=cs'.length) (hr:∀ (i:Nat) (x y:AV),cs[i]?=some x→cs'[i]?=some y→Fz old h x y):Fz old h (.ptr b off) (.iptr cs' off)
 |slice (b off len sz:Nat) (cs cs':List AV) (hb:h.get b=some (.cells cs)) (hl:cs.length=cs'.length) (hr:∀ (i:Nat) (x y:AV),cs[i]?=some x→cs'[i]?=some y→Fz old h x y):Fz old h (.slice b off len sz) (.islice cs' off len sz)
 |func (f:FuncId) (xs ys xs' ys':List AV) (h1:xs.length=xs'.length) (h2:ys.length=ys'.length) (r1:∀ (i:Nat) (x y:AV),xs[i]?=some x→xs'[i]?=some y→Fz old h x y)
   (r2:∀ (i:Nat) (x y:AV),ys[i]?=some x→ys'[i]?=some y→Fz old h x y):Fz old h (.func f xs ys) (.func f xs' ys')
 |iface (t:TypeId) (x y:AV) (hr:Fz old h x y):Fz old h (.iface t x) (.iface t y)
 |agg (cs cs':List AV) (hl:cs.length=cs'.length) (hr:∀ (i:Nat) (x y:AV),cs[i]?=some x→cs'[i]?=some y→Fz old h x y):Fz old h (.agg cs) (.agg cs')
 |tuple (cs cs':List AV) (hl:cs.length=cs'.length) (hr:∀ (i:Nat) (x y:AV),cs[i]?=some x→cs'[i]?=some y→Fz old h x y):Fz old h (.tuple cs) (.tuple cs')
structure jB (old:Bool) (h:ag) (cs cs':List AV):Prop where
 len:cs.length=cs'.length
 rel:∀ (i:Nat) (x y:AV),cs[i]?=some x→cs'[i]?=some y→Fz old h x y
theorem jB.nil{old:Bool}{h:ag}:jB old h [] []:=⟨rfl,by simp⟩
theorem jB.cons{old:Bool}{h:ag}{x y:AV}{xs ys:List AV}(h1:Fz old h x y)(h2:jB old h xs ys):jB old h (x :: xs) (y :: ys):=
 ⟨by simp [h2.len],fun i u v a b=>by
  cases i with
  |zero=>simp at a b;subst a;subst b;exact h1
  |succ i=>simp at a b;exact h2.rel i u v a b⟩
theorem jB.append{old:Bool}{h:ag}{xs ys us vs:List AV}(h1:jB old h xs us)(h2:jB old h ys vs):jB old h (xs++ys) (us++vs):=by
 induction xs generalizing us with
 |nil=>cases us with
  |nil=>exact h2
  |cons u us=>exact absurd h1.len (by simp)
 |cons x xs ih=>cases us with
  |nil=>exact absurd h1.len (by simp)
  |cons u us=>exact .cons (h1.rel 0 x u rfl rfl) (ih ⟨by simpa using h1.len,fun i a b p q=>h1.rel (i+1) a b (by simpa using p) (by simpa using q)⟩)
mutual
theorem Fz.dD{h:ag}:∀ {x:AV},x.pure=true→Fz true h x x
 |.undef,_=>.scalar _ rfl
 |.bool _,_=>.scalar _ rfl
 |.int _ _,_=>.scalar _ rfl
 |.str _,_=>.scalar _ rfl
 |.nilp,_=>.scalar _ rfl
 |.nils,_=>.scalar _ rfl
 |.nilm,_=>.scalar _ rfl
 |.nilf,_=>.scalar _ rfl
 |.nili,_=>.scalar _ rfl
 |.iptr cs off,hp=>.iptr cs cs off rfl rfl (jB.dD hp).rel
 |.islice cs off len sz,hp=>.islice cs cs off len sz rfl rfl (jB.dD hp).rel
 |.func f a b,hp=>by
  simp only [AV.pure,Bool.and_eq_true] at hp
  exact .func f a b a b rfl rfl (jB.dD hp.1).rel (jB.dD hp.2).rel
 |.iface t x,hp=>.iface t x x (Fz.dD hp)
 |.agg cs,hp=>.agg cs cs rfl (jB.dD hp).rel
 |.tuple cs,hp=>.tuple cs cs rfl (jB.dD hp).rel
 |.ptr _ _,hp=>by cases hp
 |.slice _ _ _ _,hp=>by cases hp
 |.map _,hp=>by cases hp
theorem jB.dD{h:ag}:∀ {l:List AV},AV.pureL l=true→jB true h l l
 |[],_=>.nil
 |a :: l,hp=>by
  simp only [AV.pureL,Bool.and_eq_true] at hp
  exact .cons (Fz.dD hp.1) (jB.dD hp.2)
end
section
variable {P:Program} {w0 w w':World} {μ μ':Mu} {h h':ag}
def Mu.Gs(μ:Mu)(w:World)(c:Nat):Option (List Value):=
 match μ.z c with
 |some vs=>some vs
 |none=>@ite _ (∃ b k,μ b=some k∧k.c=c) (Classical.propDecidable _) (match w.heap[c]? with|some (.cells arr _ _)=>some arr.toList|_=>none) none
theorem Mu.uU{c:Nat}{vs:List Value}(hz:μ.z c=some vs):μ.Gs w c=some vs:=by unfold Mu.Gs;rw [hz]
theorem Mu.LY{b:Nat}{k:BJ}(hb:μ b=some k)(hz:μ.z k.c=none){arr:Array Value}{e:TypeId}{fr:Nat×Nat}(hc:w.heap[k.c]?=some (.cells arr e fr)):μ.Gs w k.c=some arr.toList:=by
 unfold Mu.Gs;rw [hz];simp only;rw [if_pos ⟨b,k,hb,rfl⟩,hc]
theorem Mu.H7{c:Nat}{vs:List Value}(h:μ.Gs w c=some vs):μ.z c=some vs∨((∃ b k,μ b=some k∧k.c=c)∧∃ arr e fr,w.heap[c]?=some (.cells arr e fr)∧arr.toList=vs):=by
 unfold Mu.Gs at h
 split at h
 ·rename_i vs' hz;cases h;exact .inl hz
 ·split at h
  ·rename_i hex
   split at h
   ·rename_i arr e fr hc;cases h;exact .inr ⟨hex,arr,e,fr,hc,rfl⟩
   ·cases h
  ·cases h
def Mu.DJ(μ μ':Mu)(w w':World):Mu:=⟨μ.m,fun c=>@ite _ ((∃ vs,μ.z c=some vs)∨w.heap.size≤c) (Classical.propDecidable _) (μ'.Gs w' c) none⟩
theorem Cy{old:Bool}(hg':Good w0 μ' h' w'){ν:Mu}(hown:∀ b k,μ' b=some k→∀ vs,μ'.Gs w' k.c=some vs→ν.z k.c=some vs)(hold:old=true→∀ c vs,μ'.z c=some vs→ν.z c=some vs){x y:AV}(hf:Fz old h' x y):∀ v,VR w0 μ' x v→VR w0 ν y v:=by
 have hblk:∀ b k cs,μ' b=some k→h'.get b=some (.cells cs)→∃ vs:List Value,vs.length=cs.length∧(ν.z k.c).isSome=true∧(∀ (i:Nat) (v:Value),vs[i]?=some v→ν.cell k.c (k.base+i)=some v) ∧
   ∀ (i:Nat) (x:AV) (v:Value),cs[i]?=some x→vs[i]?=some v→VR w0 μ' x v:=by
  intro b k cs hb ho
  obtain ⟨arr,e,fr,h1,h2,h3,h4,h5⟩:=hg'.obj b k _ hb ho
  have hz:ν.z k.c=some arr.toList:=hown b k hb _ (Mu.LY hb (hg'.apart b k hb) h1)
  refine ⟨(arr.toList.drop k.base).take cs.length,by simp;omega,by rw [hz];rfl,fun i v hi=>?_,fun i x v hx hi=>?_⟩
  ·rw [List.getElem?_take] at hi
   split at hi
   ·rw [List.getElem?_drop] at hi
    unfold Mu.cell;rw [hz];exact hi
   ·cases hi
  ·obtain ⟨v',hv1,hv2⟩:=h5 i x hx
   rw [List.getElem?_take] at hi
   split at hi
   ·rw [List.getElem?_drop,Array.getElem?_toList,hv1] at hi
    cases hi;exact hv2
   ·cases hi
 have rows:∀ {cs cs':List AV} {vs:List Value},cs.length=cs'.length→cs.length=vs.length→(∀ (i:Nat) (x y:AV),cs[i]?=some x→cs'[i]?=some y→∀ v,VR w0 μ' x v→VR w0 ν y v) →
   (∀ (i:Nat) (x:AV) (v:Value),cs[i]?=some x→vs[i]?=some v→VR w0 μ' x v)→∀ (i:Nat) (y:AV) (v:Value),cs'[i]?=some y→vs[i]?=some v→VR w0 ν y v:=by
  intro cs cs' vs hl hl2 ih hr i y v hy hv
  have hi:i<cs'.length:=(List.getElem?_eq_some_iff.1 hy).1
  have hx:cs[i]?=some (cs[i]'(by omega)):=List.getElem?_eq_getElem (by omega)
  exact ih i _ y hx hy v (hr i _ v hx hv)
 induction hf with
 |scalar x hx=>
  intro v hv
  cases hv<;>simp only [AV.scalar,Bool.false_eq_true,reduceCtorEq] at hx<;>constructor
 |iptr cs cs' off ho hl hr ih=>
  intro v hv
  cases hv
  rename_i g o vs hg hv hl' hr'
  refine .iptr cs' off g o vs ?_ (by omega) (fun i v hi=>?_) (rows hl hl' ih hr')
  ·trivial
  ·have:=hv i v hi
   unfold Mu.cell at this ⊢
   obtain ⟨zs,hz,hi2⟩:=Option.bind_eq_some_iff.1 this
   rw [hold ho _ _ hz];exact hi2
 |islice cs cs' off len sz ho hl hr ih=>
  intro v hv
  cases hv
  rename_i cap a g o vs hg hv hl' hr' ha hc
  refine .islice cs' off len sz cap a g o vs ?_ (by omega) (fun i v hi=>?_) (rows hl hl' ih hr') hc ha
  ·trivial
  ·have:=hv i v hi
   unfold Mu.cell at this ⊢
   obtain ⟨zs,hz,hi2⟩:=Option.bind_eq_some_iff.1 this
   rw [hold ho _ _ hz];exact hi2
 |ptr b off cs cs' hb hl hr ih=>
  intro v hv
  cases hv
  rename_i k hk
  obtain ⟨vs,q1,q2,q3,q4⟩:=hblk b k cs hk hb
  exact .iptr cs' off k.c k.base vs trivial (by omega) q3 (rows hl (by omega) ih q4)
 |slice b off len sz cs cs' hb hl hr ih=>
  intro v hv
  cases hv
  rename_i cap a k hk hc ha
  obtain ⟨vs,q1,q2,q3,q4⟩:=hblk b k cs hk hb
  exact .islice cs' off len sz cap a k.c k.base vs trivial (by omega) q3 (rows hl (by omega) ih q4) hc (fun h0=>(ha h0).1)
 |func f xs ys xs' ys' h1 h2 r1 r2 ih1 ih2=>
  intro v hv
  cases hv
  rename_i us vs g1 q1 g2 q2
  exact .func f xs' ys' us vs (by omega) (by omega) (rows h1 g1 ih1 q1) (rows h2 g2 ih2 q2)
 |iface t x y hr ih=>
  intro v hv
  cases hv
  rename_i v hv
  exact .iface t y v (ih v hv)
 |agg cs cs' hl hr ih=>
  intro v hv
  cases hv
  rename_i vs hl' hr'
  exact .agg cs' vs (by omega) (rows hl hl' ih hr')
 |tuple cs cs' hl hr ih=>
  intro v hv
  cases hv
  rename_i vs hl' hr'
  exact .tuple cs' vs (by omega) (rows hl hl' ih hr')
theorem Cz{ν:Mu}(hν:ν.m=fun _=>none)(hg:Good w0 μ h w)(hg':Good w0 μ' h' w')(hx:Ext ν ag.empty w μ' h' w')(hz:∀ c vs,μ.z c=some vs→ν.z c=some vs) :
  Good w0 (μ.DJ μ' w w') h w'∧Ext μ h w (μ.DJ μ' w w') h w':=by
 have hf:∀ k,k<w.heap.size→w'.heap[k]?=w.heap[k]?:=fun k hk=>hx.frame k hk (by simp [hν])
 have hnew:∀ c vs,(μ.DJ μ' w w').z c=some vs→μ.z c=some vs∨w.heap.size≤c:=by
  intro c vs hc
  have hc':@ite _ ((∃ vs,μ.z c=some vs)∨w.heap.size≤c) (Classical.propDecidable _) (μ'.Gs w' c) none=some vs:=hc
  split at hc'
  ·rename_i hor
   rcases hor with ⟨vs',hv⟩|hge
   ·rw [Mu.uU (hx.mono.vp _ _ (hz _ _ hv))] at hc'
    cases hc';exact .inl hv
   ·exact .inr hge
  ·cases hc'
 have hmono:∀ c vs,μ.z c=some vs→(μ.DJ μ' w w').z c=some vs:=by
  intro c vs hv
  show @ite _ ((∃ vs,μ.z c=some vs)∨w.heap.size≤c) (Classical.propDecidable _) (μ'.Gs w' c) none=some vs
  rw [if_pos (.inl ⟨vs,hv⟩)]
  exact Mu.uU (hx.mono.vp _ _ (hz _ _ hv))
 have hle:μ.le (μ.DJ μ' w w'):=⟨fun _ _ h=>h,hmono⟩
 refine ⟨⟨hg'.below,hg.clean,hg.fresh,fun b k hb=>?_,fun c vs hc=>?_,fun b k hb=>?_,fun b k o hb ho=>?_,hg.inj⟩,⟨hle,fun k hk _=>hf k hk,fun _ _ h=>.inl h,hx.size,Nat.le_refl _,fun _ _ _=>rfl,fun _ _ h=>.inl h,hnew⟩⟩
 ·have:=hg.own b k hb;have:=hx.size;omega
 ·have hc':@ite _ ((∃ vs,μ.z c=some vs)∨w.heap.size≤c) (Classical.propDecidable _) (μ'.Gs w' c) none=some vs:=hc
  split at hc'
  ·rcases Mu.H7 hc' with h1|⟨_,h1⟩
   ·exact hg'.vp c vs h1
   ·exact h1
  ·cases hc'
 ·cases hq:(μ.DJ μ' w w').z k.c with
  |none=>rfl
  |some vs=>
   have hb':μ b=some k:=hb
   rcases hnew _ _ hq with h1|h1
   ·rw [hg.apart b k hb'] at h1;cases h1
   ·have:=(hg.own b k hb').2;omega
 ·have hb':μ b=some k:=hb
  rw [hf _ (hg.own b k hb').2]
  exact nq.mono hle (hg.obj b k o hb' ho)
theorem VR.LZ(hz:∀ c vs,μ.z c=some vs→μ'.z c=some vs){x:AV}{v:Value}(hv:VR w0 μ x v)(hp:x.pure=true):VR w0 μ' x v:=by
 have hsome:∀ g,(μ.z g).isSome=true→(μ'.z g).isSome=true:=fun g hg=>by
  obtain ⟨zs,h1⟩:=Option.isSome_iff_exists.1 hg;rw [hz _ _ h1];rfl
 have hcell:∀ g i v,μ.cell g i=some v→μ'.cell g i=some v:=fun g i v hc=>by
  unfold Mu.cell at hc ⊢
  obtain ⟨zs,h1,h2⟩:=Option.bind_eq_some_iff.1 hc
  rw [hz _ _ h1];exact h2
 induction hv with
 |undef v=>exact .undef v
 |bool b=>exact .bool b
 |int k n=>exact .int k n
 |str s=>exact .str s
 |nilp=>exact .nilp
 |ptr b off k hk=>cases hp
 |iptr cs off g o vs hg hl hv hr ih=>exact .iptr cs off g o vs trivial hl (fun i v h=>hcell _ _ _ (hv i v h)) (fun i x v hx hv=>ih i x v hx hv (AV.j8 hp hx))
 |nils=>exact .nils
 |slice b off len sz cap a k hk hc ha=>cases hp
 |islice cs off len sz cap a g o vs hg hl hv hr hc ha ih=>exact .islice cs off len sz cap a g o vs trivial hl (fun i v h=>hcell _ _ _ (hv i v h)) (fun i x v hx hv=>ih i x v hx hv (AV.j8 hp hx)) hc ha
 |nilm=>exact .nilm
 |map b k hk=>cases hp
 |nilf=>exact .nilf
 |func f xs ys us vs h1 h2 r1 r2 ih1 ih2=>
  simp only [AV.pure,Bool.and_eq_true] at hp
  exact .func f xs ys us vs h1 h2 (fun i x v hx hv=>ih1 i x v hx hv (AV.j8 hp.1 hx)) (fun i x v hx hv=>ih2 i x v hx hv (AV.j8 hp.2 hx))
 |nili=>exact .nili
 |iface t x v h ih=>exact .iface t x v (ih hp)
 |agg cs vs hl hr ih=>exact .agg cs vs hl (fun i x v hx hv=>ih i x v hx hv (AV.j8 hp hx))
 |tuple cs vs hl hr ih=>exact .tuple cs vs hl (fun i x v hx hv=>ih i x v hx hv (AV.j8 hp hx))
theorem H8{old:Bool}{ν:Mu}(hν:ν.m=fun _=>none)(hg':Good w0 μ' h' w')(hx:Ext ν ag.empty w μ' h' w')(hz:old=true→∀ c vs,ν.z c=some vs→μ.z c=some vs){x y:AV}(hf:Fz old h' x y){v:Value}(hv:VR w0 μ' x v) :
  VR w0 (μ.DJ μ' w w') y v:=by
 have key:∀ c vs,μ'.Gs w' c=some vs→((∃ vs,μ.z c=some vs)∨w.heap.size≤c)→(μ.DJ μ' w w').z c=some vs:=by
  intro c vs hi hor
  show @ite _ ((∃ vs,μ.z c=some vs)∨w.heap.size≤c) (Classical.propDecidable _) (μ'.Gs w' c) none=some vs
  rw [if_pos hor];exact hi
 refine Cy hg' (ν:=μ.DJ μ' w w') (fun b k hb vs hi=>key _ _ hi (.inr ?_)) (fun ho c vs hc=>key _ _ (Mu.uU hc) ?_) hf v hv
 ·rcases hx.new b k hb with h1|h1|⟨b0,k0,h1,_⟩
  ·rw [hν] at h1;cases h1
  ·exact h1
  ·rw [hν] at h1;cases h1
 ·rcases hx.yh c vs hc with h1|h1
  ·exact .inl ⟨vs,hz ho _ _ h1⟩
  ·exact .inr h1
theorem Sem.frozen{f:FuncId}{args:List AV}{K0 K:Out→ag→Bool}(hs:Sem P f args ag.empty K0)(hp:AV.pureL args=true)
  (hk:∀ o h',K0 o h'=true→∃ v r,o = .ret v∧Fz true h' v r∧K (.ret r) h=true):Sem P f args h K:=by
 refine ⟨hs.1,fun w0 μ w vs hg hv=>?_⟩
 have hv0:eC w0 μ.bare args vs:=⟨hv.len,fun i x v hx hv'=>VR.LZ (μ:=μ) (μ':=μ.bare) (fun _ _ h=>h) (hv.rel i x v hx hv') (AV.j8 hp hx)⟩
 refine (hs.2 w0 μ.bare w vs hg.nothing hv0).mono fun e w' hr=>?_
 cases e with
 |returned vc=>
  obtain ⟨v,h',μ',k1,k2,k3,k4⟩:=hr
  obtain ⟨v',r,he,hf,hK⟩:=hk _ _ k1
  cases he
  obtain ⟨g1,g2⟩:=Cz rfl hg k3 k4 (fun _ _ h=>h)
  exact ⟨r,h,_,hK,H8 (μ:=μ) rfl k3 k4 (fun _ _ _ h=>h) hf k2,g1,g2⟩
 |panicked c=>
  obtain ⟨v,vc,h',μ',k1,_⟩:=hr
  obtain ⟨v',r,he,_⟩:=hk _ _ k1
  cases he
 |outgrown=>exact hr.elim
theorem Good.SG(hg:Good w0 μ h w):Good w0 ⟨fun _=>none,μ.Gs w⟩ ag.empty w:=
 ⟨hg.below,ag.qM,by simp,by simp,fun c vs hc=>by
  rcases Mu.H7 hc with h1|⟨_,h1⟩
  ·exact hg.vp c vs h1
  ·exact h1,by simp,by simp,by simp⟩
theorem Sem.L7{f:FuncId}{args args':List AV}{K0 K:Out→ag→Bool}(hs:Sem P f args' ag.empty K0)(hp:jB true h args args')
  (hk:∀ o h',K0 o h'=true→∃ v r,o = .ret v∧Fz false h' v r∧K (.ret r) h=true):Sem P f args h K:=by
 refine ⟨hs.1,fun w0 μ w vs hg hv=>?_⟩
 have hv0:eC w0 ⟨fun _=>none,μ.Gs w⟩ args' vs:=by
  refine ⟨by rw [← hp.len];exact hv.len,fun i y v hy hv'=>?_⟩
  have hi:i<args'.length:=(List.getElem?_eq_some_iff.1 hy).1
  have hx:args[i]?=some (args[i]'(by rw [hp.len];exact hi)):=List.getElem?_eq_getElem _
  exact Cy hg (ν:=⟨fun _=>none,μ.Gs w⟩) (fun _ _ _ _ h=>h) (fun _ c vs h=>Mu.uU h) (hp.rel i _ y hx hy) v (hv.rel i _ v hx hv')
 refine (hs.2 w0 _ w vs hg.SG hv0).mono fun e w' hr=>?_
 cases e with
 |returned vc=>
  obtain ⟨v,h',μ',k1,k2,k3,k4⟩:=hr
  obtain ⟨v',r,he,hf,hK⟩:=hk _ _ k1
  cases he
  obtain ⟨g1,g2⟩:=Cz rfl hg k3 k4 (fun c vs h=>Mu.uU h)
  exact ⟨r,h,_,hK,H8 (μ:=μ) rfl k3 k4 (fun h=>by cases h) hf k2,g1,g2⟩
 |panicked c=>
  obtain ⟨v,vc,h',μ',k1,_⟩:=hr
  obtain ⟨v',r,he,_⟩:=hk _ _ k1
  cases he
 |outgrown=>exact hr.elim
end
end
end Go.AM
namespace Go.AM
open Go Go.RowKit
noncomputable section
def vS(f:AV→Option AV):List AV→Option (List AV)
 |[]=>some []
 |x :: xs=>match f x with
  |none=>none
  |some y=>match vS f xs with
   |none=>none
   |some ys=>some (y :: ys)
def jl(old:Bool)(h:ag):Nat→AV→Option AV
 |0,_=>none
 |n+1,x=>match x with
  |.ptr b off=>(match h.get b with
   |some (.cells cs)=>(match vS (jl old h n) cs with|some ds=>some (.iptr ds off)|none=>none)
   |_=>none)
  |.slice b off len sz=>(match h.get b with
   |some (.cells cs)=>(match vS (jl old h n) cs with|some ds=>some (.islice ds off len sz)|none=>none)
   |_=>none)
  |.iptr cs off=>@Bool.rec (fun _=>Option AV) none (match vS (jl old h n) cs with|some ds=>some (.iptr ds off)|none=>none) old
  |.islice cs off len sz=>@Bool.rec (fun _=>Option AV) none (match vS (jl old h n) cs with|some ds=>some (.islice ds off len sz)|none=>none) old
  |.func f a b=>(match vS (jl old h n) a with
   |none=>none
   |some a'=>match vS (jl old h n) b with
    |none=>none
    |some b'=>some (.func f a' b'))
  |.iface t v=>(match jl old h n v with|some w=>some (.iface t w)|none=>none)
  |.agg cs=>(match vS (jl old h n) cs with|some ds=>some (.agg ds)|none=>none)
  |.tuple cs=>(match vS (jl old h n) cs with|some ds=>some (.tuple ds)|none=>none)
  |.map _=>none
  |x=>some x
theorem lJ{old:Bool}{h:ag}{f:AV→Option AV}(hf:∀ x y,f x=some y→Fz old h x y):∀ {xs ys:List AV},vS f xs=some ys→jB old h xs ys
 |[],ys,e=>by simp only [vS,Option.some.injEq] at e;subst e;exact .nil
 |x :: xs,ys,e=>by
  simp only [vS] at e
  split at e
  ·cases e
  ·rename_i y hy
   split at e
   ·cases e
   ·rename_i ys' hys
    cases e
    exact .cons (hf _ _ hy) (lJ hf hys)
theorem oU{old:Bool}{h:ag}:∀ (n:Nat) (x y:AV),jl old h n x=some y→Fz old h x y
 |0,x,y,e=>by cases e
 |n+1,x,y,e=>by
  have ih:=fun x y=>oU (old:=old) (h:=h) n x y
  cases x<;>simp only [jl,Option.some.injEq,reduceCtorEq] at e
  case undef=>subst e;exact .scalar _ rfl
  case bool=>subst e;exact .scalar _ rfl
  case int=>subst e;exact .scalar _ rfl
  case str=>subst e;exact .scalar _ rfl
  case nilp=>subst e;exact .scalar _ rfl
  case nils=>subst e;exact .scalar _ rfl
  case nilm=>subst e;exact .scalar _ rfl
  case nilf=>subst e;exact .scalar _ rfl
  case nili=>subst e;exact .scalar _ rfl
  case ptr b off=>
   split at e
   ·rename_i cs hb
    split at e
    ·rename_i ds hd;cases e
     have:=lJ ih hd
     exact .ptr b off cs ds hb this.len this.rel
    ·cases e
   ·cases e
  case slice b off len sz=>
   split at e
   ·rename_i cs hb
    split at e
    ·rename_i ds hd;cases e
     have:=lJ ih hd
     exact .slice b off len sz cs ds hb this.len this.rel
    ·cases e
   ·cases e
  case iptr cs off=>
   cases ho:old with
   |false=>rw [ho] at e;cases e
   |true=>
    rw [← ho]
    rw [ho] at e
    simp only at e
    split at e
    ·rename_i ds hd;cases e
     rw [← ho] at hd
     have:=lJ ih hd
     exact .iptr cs ds off ho this.len this.rel
    ·cases e
  case islice cs off len sz=>
   cases ho:old with
   |false=>rw [ho] at e;cases e
   |true=>
    rw [← ho]
    rw [ho] at e
    simp only at e
    split at e
    ·rename_i ds hd;cases e
     rw [← ho] at hd
     have:=lJ ih hd
     exact .islice cs ds off len sz ho this.len this.rel
    ·cases e
  case func f a b=>
   split at e
   ·cases e
   ·rename_i a' ha
    split at e
    ·cases e
    ·rename_i b' hb;cases e
     have h1:=lJ ih ha
     have h2:=lJ ih hb
     exact .func f a b a' b' h1.len h2.len h1.rel h2.rel
  case iface t v=>
   split at e
   ·rename_i w hw;cases e;exact .iface t v w (ih _ _ hw)
   ·cases e
  case agg cs=>
   split at e
   ·rename_i ds hd;cases e
    have:=lJ ih hd
    exact .agg cs ds this.len this.rel
   ·cases e
  case tuple cs=>
   split at e
   ·rename_i ds hd;cases e
    have:=lJ ih hd
    exact .tuple cs ds this.len this.rel
   ·cases e
def cp(old:Bool)(n:Nat)(r:AV):Out→ag→Bool
 |.ret v,h=>(match jl old h n v with|some r'=>AV.beq r' r|none=>false)
 |_,_=>false
def gi(a0:List AV)(r:AV):List AV→ag→(Out→ag→Bool)→Bool:=fun args h K=>
 AV.beqL args a0&&K (.ret r) h
def dI(n:Nat)(a0:List AV)(r:AV):List AV→ag→(Out→ag→Bool)→Bool:=fun args h K=>
 match vS (jl true h n) args with
 |some as=>AV.beqL as a0&&K (.ret r) h
 |none=>false
theorem cg{P:Program}{call:gW}(hs:fE P call){f:FuncId}{a0:List AV}{n:Nat}{r:AV}(hp:AV.pureL a0=true)(he:call f a0 ag.empty (cp true n r)=true)
  (args:List AV) (h:ag) (K:Out→ag→Bool) (hK:gi a0 r args h K=true):Sem P f args h K:=by
 simp only [gi,Bool.and_eq_true] at hK
 obtain rfl:=AV.beqL_eq _ _ hK.1
 refine Sem.frozen (hs.sem he) hp fun o h' ho=>?_
 cases o with
 |ret v=>
  simp only [cp] at ho
  split at ho
  ·rename_i r' hr
   obtain rfl:=AV.beq_eq _ _ ho
   exact ⟨v,_,rfl,oU _ _ _ hr,hK.2⟩
  ·cases ho
 |panic v=>cases ho
theorem bg{P:Program}{call:gW}(hs:fE P call){f:FuncId}{a0:List AV}{n m:Nat}{r:AV}(he:call f a0 ag.empty (cp false n r)=true)
  (args:List AV) (h:ag) (K:Out→ag→Bool) (hK:dI m a0 r args h K=true):Sem P f args h K:=by
 unfold dI at hK
 split at hK
 ·rename_i as ha
  simp only [Bool.and_eq_true] at hK
  obtain rfl:=AV.beqL_eq _ _ hK.1
  refine Sem.L7 (hs.sem he) (lJ (fun x y=>oU m x y) ha) fun o h' ho=>?_
  cases o with
  |ret v=>
   simp only [cp] at ho
   split at ho
   ·rename_i r' hr
    obtain rfl:=AV.beq_eq _ _ ho
    exact ⟨v,_,rfl,oU _ _ _ hr,hK.2⟩
   ·cases ho
  |panic v=>cases ho
 ·cases hK
end
end Go.AM