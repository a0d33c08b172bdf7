/- Parts of a proof, merged out of smaller texts: the abstract machine and what functions do. Conditions: none. -/
import Derived.Test.YtmkffehchicgaaaGreatSo7
import Derived.LoopN
set_option linter.unusedSimpArgs false
set_option linter.unusedVariables false
namespace Go.AM
open Go Go.RowKit
inductive My (w0:World) (μ:Mu):AX→Exit→Prop where
 |normal:My w0 μ .normal .normal
 |exit (id:Nat):My w0 μ (.exit id) (.exit id)
 |ret:My w0 μ .ret .ret
 |panic (v:AV) (vc:Value) (h:VR w0 μ v vc):My w0 μ (.panic v) (.panic [{ v:=vc,recovered:=false }])
def rL(w0:World)(μ:Mu)(h:af)(w:World)(K:AX→St→Bool)(Q:Exit→Act→World→Prop):Prop:=
 ∀ (e:AX) (ex:Exit) (s':St) (a':Act) (w':World) (μ':Mu),K e s'=true→My w0 μ' e ex→SR w0 μ' s' a' w'→Ext μ h w μ' s'.h w'→Q ex a' w'
section
variable {P:Program} {w0 w:World} {μ μ':Mu} {h h':af} {s:St} {a:Act}
theorem rL.after{K:AX→St→Bool}{Q:Exit→Act→World→Prop}(hl:rL w0 μ h w K Q){w':World}(hx:Ext μ h w μ' h' w'):rL w0 μ' h' w' K Q:=
 fun e ex s2 a2 w2 μ2 k2 q2 r2 x2=>hl e ex s2 a2 w2 μ2 k2 q2 r2 (hx.trans x2)
theorem CF(env:Env):∀ (n i t:Nat),aB (D8 env n i) t=if t<n then env (i+t) else bG
 |0,i,t=>by simp [D8,aB]
 |n+1,i,t=>by
  cases t with
  |zero=>simp [D8,aB]
  |succ t=>
   simp only [D8,aB,CF env n (i+1) t]
   rw [show i+1+t=i+(t+1) by omega]
   by_cases h:t<n
   ·rw [if_pos h,if_pos (by omega)]
   ·rw [if_neg h,if_neg (by omega)]
theorem SR.Hh(hs:SR w0 μ s a w):SR w0 μ s.Hh a w:=by
 refine ⟨⟨hs.env.1,fun t=>?_⟩,hs.defs,hs.good⟩
 show VR w0 μ (aB (D8 s.env s.n 0) t) _
 rw [CF]
 by_cases h:t<s.n
 ·rw [if_pos h,Nat.zero_add];exact hs.env.2 t
 ·rw [if_neg h]
  have:a.tmps.getD t undef=undef:=by
   have h1:=hs.env.1
   rw [Array.getD_eq_getD_getElem?,Array.getElem?_eq_none (by omega)];rfl
  rw [this];exact VR.bG
theorem Fh(hm:P.follows .mixedOrders=true){call:fQ}(hc:eE P call)(rounds:Nat):∀ (c:Code) (s:St) (a:Act) (w:World) (μ:Mu) (K:AX→St→Bool) (Q:Exit→Act→World→Prop),SR w0 μ s a w →
  rL w0 μ s.h w K Q→evalCode P call rounds c s K=true→c.wp P Q a w:=by
 intro c
 induction c with
 |skip=>intro s a w μ K Q hs hl h;exact wp_skip (hl _ _ _ _ _ _ h .normal hs (Ext.refl _ _ _))
 |region id ops draw=>
  intro s a w μ K Q hs hl h
  simp only [evalCode] at h
  cases draw with
  |true=>
   rw [if_pos rfl] at h
   obtain ⟨plan,hp,h⟩:=eu h
   exact Fg hm hc hp hs (fun s' a' w' μ' hK hs' hx=>hl _ _ _ _ _ _ hK .normal hs' hx) h
  |false=>
   simp only [Bool.false_eq_true,if_false] at h
   refine wp_region ?_
   have:=El (Q:=Q) hc ops.toList 0 s a w μ (fun j o hj=>by rw [Nat.zero_add];simpa using hj) hs ⟨fun s' a' w' μ' hK hs' hx=>hl _ _ _ _ _ _ hK .normal hs' hx,fun v vc s' a' w' μ' hK hv hs' hx=>hl _ _ _ _ _ _ hK (.panic v vc hv) hs' hx⟩ h
   rw [List.range_eq_range']
   simpa using this
 |seq x y ihx ihy=>
  intro s a w μ K Q hs hl h
  simp only [evalCode] at h
  refine wp_seq (ihx s a w μ _ _ hs (fun e ex s' a' w' μ' hK hq hs' hx=>?_) h)
  cases hq with
  |normal=>exact ihy s' a' w' μ' K Q hs' (hl.after hx) hK
  |exit id=>exact hl _ _ _ _ _ _ hK (.exit id) hs' hx
  |ret=>exact hl _ _ _ _ _ _ hK .ret hs' hx
  |panic v vc hv=>exact hl _ _ _ _ _ _ hK (.panic v vc hv) hs' hx
 |cond c x y ihx ihy=>
  intro s a w μ K Q hs hl h
  simp only [evalCode] at h
  have hcv:=hs.eval c
  split at h
  ·rename_i e
   rw [e] at hcv
   exact wp_cond_true hcv.fH (ihx s a w μ K Q hs hl h)
  ·rename_i e
   rw [e] at hcv
   exact wp_cond_false hcv.fH (ihy s a w μ K Q hs hl h)
  ·cases h
 |block id c ih=>
  intro s a w μ K Q hs hl h
  simp only [evalCode] at h
  refine wp_block (ih s a w μ _ _ hs (fun e ex s' a' w' μ' hK hq hs' hx=>?_) h)
  cases hq with
  |normal=>exact hl _ _ _ _ _ _ hK .normal hs' hx
  |exit id'=>
   simp only [Exit.inBlock]
   simp only at hK
   by_cases e:id'=id
   ·rw [if_pos e];rw [if_pos e] at hK;exact hl _ _ _ _ _ _ hK .normal hs' hx
   ·rw [if_neg e];rw [if_neg e] at hK;exact hl _ _ _ _ _ _ hK (.exit id') hs' hx
  |ret=>exact hl _ _ _ _ _ _ hK .ret hs' hx
  |panic v vc hv=>exact hl _ _ _ _ _ _ hK (.panic v vc hv) hs' hx
 |loop c ih=>
  intro s a w μ K Q hs hl h
  simp only [evalCode] at h
  refine wp_loop_rounds rounds ?_
  have key:∀ (n:Nat) (s:St) (a:Act) (w:World) (μ:Mu),SR w0 μ s a w→rL w0 μ s.h w K Q→iter (evalCode P call rounds c) K n s=true→Code.rounds P c Q n a w:=by
   intro n
   induction n with
   |zero=>intro s a w μ hs hl h;cases h
   |succ n ihn=>
    intro s a w μ hs hl h
    simp only [iter] at h
    rw [rounds_succ]
    refine ih s a w μ _ _ hs (fun e ex s' a' w' μ' hK hq hs' hx=>?_) h
    cases hq with
    |normal=>exact ihn s'.Hh a' w' μ' hs'.Hh (hl.after hx) hK
    |exit id=>exact hl _ _ _ _ _ _ hK (.exit id) hs' hx
    |ret=>exact hl _ _ _ _ _ _ hK .ret hs' hx
    |panic v vc hv=>exact hl _ _ _ _ _ _ hK (.panic v vc hv) hs' hx
  exact key rounds s a w μ hs hl h
 |exit id=>intro s a w μ K Q hs hl h;exact wp_exit (hl _ _ _ _ _ _ h (.exit id) hs (Ext.refl _ _ _))
 |ret=>intro s a w μ K Q hs hl h;exact wp_ret (hl _ _ _ _ _ _ h .ret hs (Ext.refl _ _ _))
 |_=>intros;rename_i h;simp [evalCode] at h
def k9(vc:Option Value):FrameMode:=match vc with
 |none=>.returning
 |some v=>.panicking [{ v,recovered:=false }]
inductive zG (w0:World) (μ:Mu):Option AV→Option Value→Prop where
 |none:zG w0 μ none none
 |some {v:AV} {vc:Value} (h:VR w0 μ v vc):zG w0 μ (some v) (some vc)
def xP(P:Program)(D:mB):Prop:=
 ∀ f g,D f=some g→Enters P f∧∀ (args:List AV) (pan:Option AV) (h:af) (K:Option AV→af→Bool),g args pan h K=true →
  ∀ (w0:World) (μ:Mu) (w:World) (vs:List Value) (pv:Option Value),Good w0 μ h w→dL w0 μ args vs→zG w0 μ pan pv→CallsD P f vs.toArray (k9 pv) w fun
   |.returned _,u',w'=>∃ pan' pv' h' μ',K pan' h'=true∧zG w0 μ' pan' pv'∧settle u'=k9 pv'∧Good w0 μ' h' w'∧Ext μ h w μ' h' w'
   |_,_,_=>False
def Ax(tmps:Array Value):ResultVar→Sem Value
 |.tmp t=>pure (tmps.getD t undef)
 |.cell x t=>do loadVar t (← asAddr (tmps.getD x undef))
theorem CG(hs:SR w0 μ s a w){r:ResultVar}{v:AV}(h:wU P s r=some v) :
  ∃ vc,(Ax a.tmps r).run P w = .ok vc w∧VR w0 μ v vc:=by
 cases r with
 |tmp t=>
  simp only [wU,Option.some.injEq] at h
  subst h
  exact ⟨_,by simp only [Ax,Sem.run_pure],hs.env.2 t⟩
 |cell x t=>
  simp only [wU] at h
  split at h
  ·rename_i i hi
   have hx:=hs.env.2 x
   unfold aj at h
   split at h
   ·rename_i b off hxe
    rw [hxe] at hx
    split at h
    ·rename_i cs ho
     generalize hxv:a.tmps.getD x undef=xv at hx
     cases hx
     rename_i k hk
     obtain ⟨vc,h1,h2⟩:=l8 hi (hs.good.cells hk ho) h
     exact ⟨vc,by simp only [Ax,hxv,asAddr,Sem.run_bind,Sem.run_pure,Result.andThen_ok,h1],h2⟩
    ·cases h
   ·rename_i cs off hxe
    rw [hxe] at hx
    generalize hxv:a.tmps.getD x undef=xv at hx
    cases hx
    rename_i g o vs hgl hv hl' hr'
    obtain ⟨vc,h1,h2⟩:=l8 hi (hs.good.Eg hgl hl' hv hr') h
    exact ⟨vc,by simp only [Ax,hxv,asAddr,Sem.run_bind,Sem.run_pure,Result.andThen_ok,h1],h2⟩
   ·cases h
  ·cases h
theorem vm(hs:SR w0 μ s a w):∀ (rs:List ResultVar) (vs:List AV),eL P s rs=some vs →
  ∃ us:List Value,(rs.mapM (Ax a.tmps)).run P w = .ok us w∧dL w0 μ vs us
 |[],vs,h=>by
  simp only [eL,Option.some.injEq] at h
  subst h
  exact ⟨[],by simp,.nil⟩
 |r :: rs,vs,h=>by
  simp only [eL] at h
  split at h
  ·rename_i v vs' h1 h2
   cases h
   obtain ⟨vc,e1,e2⟩:=CG hs h1
   obtain ⟨us,e3,e4⟩:=vm hs rs vs' h2
   exact ⟨vc :: us,by simp only [List.mapM_cons,Sem.run_bind,e1,Result.andThen_ok,e3,Sem.run_pure],.cons e2 e4⟩
  ·cases h
theorem vo(hs:SR w0 μ s a w){fn:Func}{vs:List AV}(h:eL P s fn.results.toList=some vs):∃ vc,(results fn a.tmps).run P w = .ok vc w∧VR w0 μ (oneOf vs) vc:=by
 obtain ⟨us,h1,h2⟩:=vm hs _ _ h
 have hm:(results fn a.tmps).run P w = .ok (if h:us.toArray.size=1 then us.toArray[0] else .tuple us.toArray) w:=by
  have hr:results fn a.tmps=(do let vs ← fn.results.mapM (Ax a.tmps);pure (if h:vs.size=1 then vs[0] else .tuple vs)):=by
   unfold results
   congr 2
  rw [hr,← Array.toArray_toList (xs:=fn.results),List.mapM_toArray]
  simp only [Sem.run_bind,map_eq_pure_bind,h1,Result.andThen_ok,Sem.run_pure]
 refine ⟨_,hm,?_⟩
 cases vs with
 |nil=>obtain rfl:=h2.fG;exact dL.tuple .nil
 |cons v vs=>
  obtain ⟨u,us',rfl,h3,h4⟩:=h2.cons_inv
  cases vs with
  |nil=>obtain rfl:=h4.fG;simpa [oneOf] using h3
  |cons v2 vs=>
   obtain ⟨u2,us2,rfl,h5,h6⟩:=h4.cons_inv
   rw [dif_neg (by simp)]
   exact dL.tuple h2
theorem jP{D:mB}(hD:xP P D){fn:Func}{μb:Mu}{hb:af}{wb:World}{K:Out→af→Bool}:∀ (ds:List kz) (Ds:List Deferred) (pan:Option AV) (pv:Option Value) (s:St) (a:Act) (w:World) (μ:Mu),
  xK w0 μ s.env s.n a.tmps→sI w0 μ ds Ds→Good w0 μ s.h w→zG w0 μ pan pv→Ext μb hb wb μ s.h w→leave P D fn.results.toList K ds pan s=true →
  Leaves P fn a.tmps (xL w0 μb hb wb K) Ds (k9 pv) w
 |[],Ds,pan,pv,s,a,w,μ,he,hd,hg,hp,hx,h=>by
  cases hd
  have hs:SR w0 μ ⟨s.env,s.n,[],s.h⟩ ⟨a.tmps,[]⟩ w:=⟨he,.nil,hg⟩
  cases hp with
  |none=>
   simp only [leave] at h
   obtain ⟨vs,h1,h2⟩:=eu h
   have h1':eL P ⟨s.env,s.n,[],s.h⟩ fn.results.toList=some vs:=by
    rw [← h1]
    have:∀ rs:List ResultVar,eL P ⟨s.env,s.n,[],s.h⟩ rs=eL P s rs:=by
     intro rs
     induction rs with
     |nil=>rfl
     |cons r rs ih=>simp only [eL,ih];cases r<;>rfl
    exact this _
   obtain ⟨vc,h3,h4⟩:=vo hs h1'
   exact ⟨vc,h3,_,_,_,h2,h4,hg,hx⟩
  |some hv=>
   simp only [leave] at h
   exact ⟨_,_,_,_,h,rfl,hv,hg,hx⟩
 |d :: ds,Ds,pan,pv,s,a,w,μ,he,hd,hg,hp,hx,h=>by
  cases hd with
  |cons hdr ht=>
   obtain ⟨cap,args,rfl,r1,r2⟩:=hdr
   simp only [leave] at h
   split at h
   ·rename_i g hg'
    obtain ⟨hen,hsound⟩:=hD d.f g hg'
    have hcd:=hsound _ _ _ _ h w0 μ w (args++cap) pv hg (r1.append r2) hp
    refine ⟨by cases pv<;>simp [k9],.func d.f,cap.toArray,d.f,(args++cap).toArray,rfl,?_,?_⟩
    ·have e:args.toArray++cap.toArray=(args++cap).toArray:=by simp
     simp only [invoke,e,sJ hen]
    ·refine CallsD.mono hcd fun e u' w' hR=>?_
     cases e with
     |returned v=>
      obtain ⟨pan',pv',h',μ',hK,hp',hu,hg2,hx2⟩:=hR
      simp only
      rw [hu]
      exact jP hD ds _ pan' pv' ⟨s.env,s.n,s.defs,h'⟩ a w' μ' (he.mono hx2.mono) (ht.mono hx2.mono) hg2 hp' (hx.trans hx2) hK
     |panicked c=>exact hR.elim
     |outgrown=>exact hR.elim
   ·cases h
theorem ug{args:List AV}{vs:List Value}(h:dL w0 μ args vs){n:Nat}(hn:args.length≤n):xK w0 μ (aB args) n (vs.toArray++Array.replicate (n-vs.toArray.size) undef):=by
 have hl:=h.len
 refine ⟨by simp;omega,fun t=>?_⟩
 have key:∀ (args:List AV) (t:Nat),aB args t=(args[t]?).getD bG:=by
  intro args
  induction args with
  |nil=>intro t;simp [aB]
  |cons x xs ih=>
   intro t
   cases t with
   |zero=>simp [aB]
   |succ t=>simp [aB,ih]
 rw [key]
 by_cases ht:t<args.length
 ·have h1:args[t]?=some args[t]:=List.getElem?_eq_getElem ht
  obtain ⟨v,h2,h3⟩:=h.get h1
  rw [h1]
  have:(vs.toArray++Array.replicate (n-vs.toArray.size) undef).getD t undef=v:=by
   rw [Array.getD_eq_getD_getElem?,Array.getElem?_append_left (by simp;omega)]
   simp [h2]
  rw [this];exact h3
 ·rw [List.getElem?_eq_none (by omega)]
  have:(vs.toArray++Array.replicate (n-vs.toArray.size) undef).getD t undef=undef:=by
   rw [Array.getD_eq_getD_getElem?,Array.getElem?_append_right (by simp;omega),Array.getElem?_replicate]
   split<;>rfl
  rw [this];exact VR.bG
def gZ(P:Program)(F:sC):Prop:=
 ∀ f g,F f=some g→∀ args h K,g args h K=true→Enters P f∧∀ (w0:World) (μ:Mu) (w:World) (vs:List Value),Good w0 μ h w→dL w0 μ args vs→Calls P f vs.toArray w (xL w0 μ h w K)
theorem iu(hm:P.follows .mixedOrders=true){F:sC}{D:mB}(hF:gZ P F)(hD:xP P D):∀ n,eE P (bB P F D n)
 |0=>fun f args h K hh=>by cases hh
 |n+1=>fun f args h K hh=>by
  simp only [bB] at hh
  split at hh
  ·rename_i g hg;exact hF f g hg args h K hh
  ·split at hh
   ·cases hh
   ·rename_i fn hfn
    split at hh
    ·rename_i hcond
     simp only [Bool.and_eq_true,decide_eq_true_eq,bne_iff_ne,ne_eq] at hcond
     unfold Hi at hh
     split at hh
     ·cases hh
     ·rename_i c hb
      refine ⟨⟨fn,c,hfn,hb,hcond.2⟩,fun w0 μ w vs hg hv=>?_⟩
      refine calls_of_wp_defers hfn hb ?_
      refine Fh (w0:=w0) hm (iu hm hF hD n) n c ⟨aB args,fn.ntmps,[],h⟩ _ w μ _ _ ⟨ug hv hcond.1,.nil,hg⟩ (fun e ex s' a' w' μ' hK hq hs' hx=>?_) hh
      cases hq with
      |normal=>exact jP hD _ _ none none s' a' w' μ' hs'.env hs'.defs hs'.good .none hx hK
      |ret=>exact jP hD _ _ none none s' a' w' μ' hs'.env hs'.defs hs'.good .none hx hK
      |exit id=>cases hK
      |panic v vc hv=>exact jP hD _ _ (some v) (some vc) s' a' w' μ' hs'.env hs'.defs hs'.good (.some hv) hx hK
    ·cases hh
end
end Go.AM
namespace Go.AM
open Go Go.RowKit
def Jc:List Entry→List Entry→Bool
 |[],[]=>true
 |a :: as,b :: bs=>AV.beq a.1 b.1&&(AV.beq a.2.1 b.2.1&&(Nat.beq a.2.2 b.2.2&&Jc as bs))
 |_,_=>false
def af.Clean(h:af):Prop:=∀ b,h.next≤b→h.get b=none
theorem af.oN:af.empty.Clean:=fun b _=>Trie.xu b
theorem af.CH{h:af}(hc:h.Clean)(o:iL):(h.alloc o).Clean:=fun b hb=>by
 simp at hb
 rw [af.aX,if_neg (by omega)]
 exact hc b (by omega)
section
variable {P:Program} {w0 w:World} {μ μ':Mu} {h h' h1:af}
def Mu.bare(μ:Mu):Mu:=⟨fun _=>Option.none,μ.z⟩
def Mu.vM(μ μ':Mu):Mu:=⟨μ.m,μ'.z⟩
theorem Good.nothing(hg:Good w0 μ h w):Good w0 μ.bare af.empty w:=
 ⟨hg.below,af.oN,by simp [Mu.bare],by simp [Mu.bare],hg.tV,by simp [Mu.bare],by simp [Mu.bare],by simp [Mu.bare]⟩
theorem Good.around(hg:Good w0 μ h w){w':World}(hg':Good w0 μ' h' w')(hx:Ext μ.bare af.empty w μ' h' w'):Good w0 (μ.vM μ') h w'∧Ext μ h w (μ.vM μ') h w':=by
 have hf:∀ k,k<w.heap.size→w'.heap[k]?=w.heap[k]?:=fun k hk=>hx.frame k hk (by simp [Mu.bare])
 refine ⟨⟨hg'.below,hg.clean,hg.fresh,fun b k hb=>?_,hg'.tV,fun b k hb=>?_,fun b k o hb ho=>?_,hg.inj⟩,⟨⟨fun _ _ h=>h,hx.mono.tV⟩,fun k hk _=>hf k hk,fun _ _ h=>.inl h,hx.size,Nat.le_refl _,fun _ _ _=>rfl,fun _ _ h=>.inl h,hx.vM⟩⟩
 ·have:=hg.own b k hb;have:=hx.size;omega
 ·show μ'.z k.c=none
  cases hz:μ'.z k.c with
  |none=>rfl
  |some vs=>
   rcases hx.vM _ _ hz with h1|h1
   ·have h1':μ.z k.c=some vs:=h1
    rw [hg.apart b k hb] at h1';cases h1'
   ·have:=(hg.own b k hb).2;omega
 ·have hb':μ b=some k:=hb
  rw [hf _ (hg.own b k hb').2]
  exact lT.mono (μ:=μ) (μ':=μ.vM μ') ⟨fun _ _ h=>h,hx.mono.tV⟩ (hg.obj b k o hb' ho)
def Lj(b:Bool):List AV→af→(Out→af→Bool)→Bool:=fun args h K=>
 match args with
 |[]=>K (.ret (.bool b)) h
 |_=>false
def Ll(b:Bool):Out→af→Bool
 |.ret v,_=>AV.beq v (.bool b)
 |_,_=>false
theorem CI{call:fQ}(hs:eE P call){f:FuncId}{b:Bool}(he:call f [] af.empty (Ll b)=true)(args:List AV)(h:af)(K:Out→af→Bool)(hK:Lj b args h K=true) :
  Enters P f∧∀ (w0:World) (μ:Mu) (w:World) (vs:List Value),Good w0 μ h w→dL w0 μ args vs→Calls P f vs.toArray w (xL w0 μ h w K):=by
 obtain ⟨hen,hc⟩:=hs _ _ _ _ he
 refine ⟨hen,fun w0 μ w vs hg hv=>?_⟩
 unfold Lj at hK
 split at hK
 ·obtain rfl:=hv.fG
  refine Calls.mono (hc w0 _ w [] hg.nothing .nil) fun e w' hR=>?_
  cases e with
  |returned vc=>
   obtain ⟨v,h',μ',k1,k2,k3,k4⟩:=hR
   obtain rfl:=AV.beq_eq _ _ k1
   obtain ⟨g1,g2⟩:=hg.around k3 k4
   rw [k2.fH]
   exact ⟨_,h,μ.vM μ',hK,.bool b,g1,g2⟩
  |panicked c=>
   obtain ⟨v,vc,h',μ',k1,_⟩:=hR
   cases k1
  |outgrown=>exact hR.elim
 ·cases hK
end
end Go.AM
namespace Go.AM
open Go Go.RowKit
section
variable {w0:World} {μ:Mu} {ρ:Nat→Nat}
end
mutual
theorem AV.beq_refl:∀ x:AV,AV.beq x x=true
 |.undef=>rfl
 |.bool a=>by simp [AV.beq]
 |.int k a=>by simp [AV.beq]
 |.str a=>by simp [AV.beq]
 |.nilp=>rfl
 |.ptr a i=>by simp [AV.beq]
 |.iptr a i=>by simp [AV.beq,AV.beqL_refl a]
 |.nils=>rfl
 |.slice b i l s=>by simp [AV.beq]
 |.islice a i l s=>by simp [AV.beq,AV.beqL_refl a]
 |.nilm=>rfl
 |.map a=>by simp [AV.beq]
 |.nilf=>rfl
 |.func f a b=>by simp [AV.beq,AV.beqL_refl a,AV.beqL_refl b]
 |.nili=>rfl
 |.iface t v=>by simp [AV.beq,AV.beq_refl v]
 |.agg a=>by simp [AV.beq,AV.beqL_refl a]
 |.tuple a=>by simp [AV.beq,AV.beqL_refl a]
theorem AV.beqL_refl:∀ x:List AV,AV.beqL x x=true
 |[]=>rfl
 |a :: l=>by simp [AV.beqL,AV.beq_refl a,AV.beqL_refl l]
end
theorem sV:∀ n:Nat,Nat.beq n n=true
 |0=>rfl
 |n+1=>sV n
end Go.AM
namespace Go.AM
def g8(g1 g2:List AV→af→(Out→af→Bool)→Bool):List AV→af→(Out→af→Bool)→Bool:=fun args h K=>g1 args h K||g2 args h K
end Go.AM
namespace Go.AM
theorem bV{g1 g2:List AV→af→(Out→af→Bool)→Bool}{args:List AV}{h:af}{K:Out→af→Bool}(hK:g8 g1 g2 args h K=true):g1 args h K=true∨g2 args h K=true:=by
 simpa [g8] using hK
end Go.AM
namespace Go.AM
open Go Go.RowKit
noncomputable section
def Sem(P:Program)(f:FuncId)(args:List AV)(h:af)(K:Out→af→Bool):Prop:=
 Enters P f∧∀ (w0:World) (μ:Mu) (w:World) (vs:List Value),Good w0 μ h w→dL w0 μ args vs→Calls P f vs.toArray w (xL w0 μ h w K)
theorem xL.mono{w0 w:World}{μ:Mu}{h:af}{K K':Out→af→Bool}(hk:∀ o h',K o h'=true→K' o h'=true){e:Ending}{w':World}(hr:xL w0 μ h w K e w'):xL w0 μ h w K' e w':=by
 cases e with
 |returned vc=>obtain ⟨v,h',μ',k1,k2⟩:=hr;exact ⟨v,h',μ',hk _ _ k1,k2⟩
 |panicked c=>obtain ⟨v,vc,h',μ',k1,k2⟩:=hr;exact ⟨v,vc,h',μ',hk _ _ k1,k2⟩
 |outgrown=>exact hr.elim
theorem Sem.mono{P:Program}{f:FuncId}{args:List AV}{h:af}{K K':Out→af→Bool}(hs:Sem P f args h K)(hk:∀ o h',K o h'=true→K' o h'=true):Sem P f args h K':=
 ⟨hs.1,fun w0 μ w vs hg hv=>(hs.2 w0 μ w vs hg hv).mono fun _ _ hr=>hr.mono hk⟩
def ah(P:Program):fQ:=fun f args h K=>@decide (Sem P f args h K) (Classical.propDecidable _)
theorem rf(P:Program):eE P (ah P):=fun f args h K hh=>@of_decide_eq_true _ (Classical.propDecidable _) hh
theorem an{P:Program}{f:FuncId}{args:List AV}{h:af}{K:Out→af→Bool}(hs:Sem P f args h K):ah P f args h K=true:=@decide_eq_true _ (Classical.propDecidable _) hs
theorem eE.sem{P:Program}{call:fQ}(hc:eE P call){f:FuncId}{args:List AV}{h:af}{K:Out→af→Bool}(hh:call f args h K=true):Sem P f args h K:=hc f args h K hh
theorem gZ.sem{P:Program}{F:sC}(hF:gZ P F){f:FuncId}{g:List AV→af→(Out→af→Bool)→Bool}(hg:F f=some g){args:List AV}{h:af}{K:Out→af→Bool}(hh:g args h K=true):Sem P f args h K:=hF f g hg args h K hh
def yes(p:Prop):Bool:=@decide p (Classical.propDecidable _)
theorem cz{p:Prop}:yes p=true↔p:=@decide_eq_true_iff p (Classical.propDecidable _)
theorem Fi:∃ r:(St→(AX→St→Bool)→Bool)→St→(AX→St→Bool)→Bool,∀ f s K,r f s K=f s K:=⟨fun f s K=>f s K,fun _ _ _=>rfl⟩
def F8:(St→(AX→St→Bool)→Bool)→St→(AX→St→Bool)→Bool:=Classical.choose Fi
theorem sW(f:St→(AX→St→Bool)→Bool)(s:St)(K:AX→St→Bool):F8 f s K=f s K:=Classical.choose_spec Fi f s K
def cD(j:Bool)(b:St→(AX→St→Bool)→Bool)(K:AX→St→Bool):AX→St→Bool
 |.normal,s'=>@Bool.rec (fun _=>Bool) (b s' K) (F8 b s' K) j
 |.exit id,s'=>K (.exit id) s'
 |.ret,s'=>K .ret s'
 |.panic v,s'=>K (.panic v) s'
theorem CJ(j:Bool)(b:St→(AX→St→Bool)→Bool)(K:AX→St→Bool)(s:St):cD j b K .normal s=b s K:=by
 cases j
 ·rfl
 ·exact sW b s K
def aY(id:Nat)(K:AX→St→Bool):AX→St→Bool
 |.normal,s'=>K .normal s'
 |.exit id',s'=>@Bool.rec (fun _=>Bool) (K (.exit id') s') (K .normal s') (Nat.beq id' id)
 |.ret,s'=>K .ret s'
 |.panic v,s'=>K (.panic v) s'
def ay(x:AV)(a b:Bool):Bool:=
 match x with
 |.bool t=>@Bool.rec (fun _=>Bool) b a t
 |_=>false
def Ay(I:Nat→St→Prop)(n:Nat)(K:AX→St→Bool):AX→St→Bool
 |.normal,s'=>yes (∃ m,m<n∧I m s')
 |.exit id,s'=>K (.exit id) s'
 |.ret,s'=>K .ret s'
 |.panic v,s'=>K (.panic v) s'
def bS(f:St→(AX→St→Bool)→Bool)(s:St)(K:AX→St→Bool):Bool:=
 yes (∃ I:Nat→St→Prop,(∃ n,I n s)∧∀ n s',I n s'→f s' (Ay I n K)=true)
def Fj(ops:List Oper)(j:Nat):Option Tmp:=match ops[j]? with|some g=>g.dst|none=>none
def HD(j:Nat):List Nat→Bool
 |[]=>false
 |k :: ks=>@Bool.rec (fun _=>Bool) (HD j ks) true (Nat.beq j k)
def g9(P:Program)(call:fQ)(ops:List Oper):List Oper→Nat→List Nat→St→(RS→Bool)→Bool
 |[],_,_,s,K=>K (.ok s)
 |o :: rest,i,sk,⟨env,n,defs,h⟩,K=>
  match o.guard with
  |none=>gm o.op P call env defs h fun
   |.ok v defs h=>fF env n o.dst v fun env=>g9 P call ops rest (i+1) sk ⟨env,n,defs,h⟩ K
   |.panic v h=>K (.panic v ⟨env,n,defs,h⟩)
  |some (j,want)=>match Fj ops j with
   |none=>false
   |some d=>@Bool.rec (fun _=>Bool)
    (ay (env d)
     (@Bool.rec (fun _=>Bool) (fF (aa env d (.bool true)) n o.dst bG fun env=>g9 P call ops rest (i+1) (i :: sk) ⟨env,n,defs,h⟩ K)
      (gm o.op P call (aa env d (.bool true)) defs h fun
       |.ok v defs h=>fF (aa env d (.bool true)) n o.dst v fun env=>g9 P call ops rest (i+1) sk ⟨env,n,defs,h⟩ K
       |.panic v h=>K (.panic v ⟨aa env d (.bool true),n,defs,h⟩)) want)
     (@Bool.rec (fun _=>Bool) (gm o.op P call (aa env d (.bool false)) defs h fun
       |.ok v defs h=>fF (aa env d (.bool false)) n o.dst v fun env=>g9 P call ops rest (i+1) sk ⟨env,n,defs,h⟩ K
       |.panic v h=>K (.panic v ⟨aa env d (.bool false),n,defs,h⟩))
      (fF (aa env d (.bool false)) n o.dst bG fun env=>g9 P call ops rest (i+1) (i :: sk) ⟨env,n,defs,h⟩ K) want))
    (match env d with
     |.tuple _=>fF env n o.dst bG fun env=>g9 P call ops rest (i+1) (i :: sk) ⟨env,n,defs,h⟩ K
     |_=>false) (HD j sk)
def cQ(P:Program)(call:fQ)(ops:List Oper)(ms:List Nat):List (Nat×Oper)→List Read→List Nat→St→(St→Bool)→Bool
 |[],_,_,s,K=>K s
 |p :: rest,lg,sk,⟨env,n,defs,h⟩,K=>
  @Option.rec (Nat×Bool) (fun _=>Bool)
   (match dX p.2.op with
   |.pure=>fc p.2.op P (evalArg env) h fun v _=>fF env n p.2.dst v fun env'=>cQ P call ops ms rest lg sk ⟨env',n,defs,h⟩ K
   |.read=>fc p.2.op P (evalArg env) h fun v _=>fF env n p.2.dst v fun env'=>cQ P call ops ms rest (⟨p.1,p.2.op,env,v⟩ :: lg) sk ⟨env',n,defs,h⟩ K
   |.alloc=>fc p.2.op P (evalArg env) h fun v h'=>fF env n p.2.dst v fun env'=>cQ P call ops ms rest lg sk ⟨env',n,defs,h'⟩ K
   |.eff=>
    gm p.2.op P call env defs h fun
     |.ok v defs' h'=>if gE P ms p.1 h' lg then fF env n p.2.dst v fun env'=>cQ P call ops ms rest lg sk ⟨env',n,defs',h'⟩ K else false
     |.panic _ _=>false)
   (fun g=>match Fj ops g.1 with
    |none=>false
    |some d=>@Bool.rec (fun _=>Bool)
     (ay (env d)
      (@Bool.rec (fun _=>Bool) (fF (aa env d (.bool true)) n p.2.dst bG fun env'=>cQ P call ops ms rest lg (p.1 :: sk) ⟨env',n,defs,h⟩ K)
       (match dX p.2.op with
       |.pure=>fc p.2.op P (evalArg (aa env d (.bool true))) h fun v _=>fF (aa env d (.bool true)) n p.2.dst v fun env'=>cQ P call ops ms rest lg sk ⟨env',n,defs,h⟩ K
       |.read=>fc p.2.op P (evalArg (aa env d (.bool true))) h fun v _=>fF (aa env d (.bool true)) n p.2.dst v fun env'=>cQ P call ops ms rest (⟨p.1,p.2.op,aa env d (.bool true),v⟩ :: lg) sk ⟨env',n,defs,h⟩ K
       |.alloc=>fc p.2.op P (evalArg (aa env d (.bool true))) h fun v h'=>fF (aa env d (.bool true)) n p.2.dst v fun env'=>cQ P call ops ms rest lg sk ⟨env',n,defs,h'⟩ K
       |.eff=>
        gm p.2.op P call (aa env d (.bool true)) defs h fun
         |.ok v defs' h'=>if gE P ms p.1 h' lg then fF (aa env d (.bool true)) n p.2.dst v fun env'=>cQ P call ops ms rest lg sk ⟨env',n,defs',h'⟩ K else false
         |.panic _ _=>false) g.2)
      (@Bool.rec (fun _=>Bool)
       (match dX p.2.op with
       |.pure=>fc p.2.op P (evalArg (aa env d (.bool false))) h fun v _=>fF (aa env d (.bool false)) n p.2.dst v fun env'=>cQ P call ops ms rest lg sk ⟨env',n,defs,h⟩ K
       |.read=>fc p.2.op P (evalArg (aa env d (.bool false))) h fun v _=>fF (aa env d (.bool false)) n p.2.dst v fun env'=>cQ P call ops ms rest (⟨p.1,p.2.op,aa env d (.bool false),v⟩ :: lg) sk ⟨env',n,defs,h⟩ K
       |.alloc=>fc p.2.op P (evalArg (aa env d (.bool false))) h fun v h'=>fF (aa env d (.bool false)) n p.2.dst v fun env'=>cQ P call ops ms rest lg sk ⟨env',n,defs,h'⟩ K
       |.eff=>
        gm p.2.op P call (aa env d (.bool false)) defs h fun
         |.ok v defs' h'=>if gE P ms p.1 h' lg then fF (aa env d (.bool false)) n p.2.dst v fun env'=>cQ P call ops ms rest lg sk ⟨env',n,defs',h'⟩ K else false
         |.panic _ _=>false)
       (fF (aa env d (.bool false)) n p.2.dst bG fun env'=>cQ P call ops ms rest lg (p.1 :: sk) ⟨env',n,defs,h⟩ K) g.2))
     (match env d with
      |.tuple _=>fF env n p.2.dst bG fun env'=>cQ P call ops ms rest lg (p.1 :: sk) ⟨env',n,defs,h⟩ K
      |_=>false) (HD g.1 sk)) p.2.guard
def PA(K:AX→St→Bool):RS→Bool
 |.ok s'=>K .normal s'
 |.panic v s'=>K (.panic v) s'
def au(P:Program)(call:fQ):Code→St→(AX→St→Bool)→Bool
 |.skip,s,K=>K .normal s
 |.region _ ops draw,s,K=>
  @Bool.rec (fun _=>Bool) (g9 P call ops.toList ops.toList 0 [] s (PA K))
   (ag (Cm ops.toList) fun p=>cQ P call ops.toList p.ms p.L [] [] s fun s'=>K .normal s') draw
 |.seq a b,s,K=>au P call a s (cD (LD a b) (au P call b) K)
 |.cond c a b,s,K=>ay (evalArg s.env c) (au P call a s K) (au P call b s K)
 |.block id c,s,K=>au P call c s (aY id K)
 |.loop c,s,K=>bS (au P call c) s K
 |.exit id,s,K=>K (.exit id) s
 |.ret,s,K=>K .ret s
 |_,_,_=>false
theorem qm{env:Env}{d:Nat}{v:AV}(h:env d=v):aa env d v=env:=by
 funext t
 rw [bE]
 by_cases e:t=d
 ·rw [if_pos e,e,h]
 ·rw [if_neg e]
theorem Az{x:AV}{a b:Bool}(h:ay x a b=true):(x = .bool true∧a=true)∨(x = .bool false∧b=true):=by
 unfold ay at h
 split at h
 ·rename_i t
  cases t
  ·exact .inr ⟨rfl,h⟩
  ·exact .inl ⟨rfl,h⟩
 ·cases h
section
variable {P:Program} {w0 w:World} {μ μ':Mu} {h h':af} {s:St} {a:Act}
theorem xQ{ops:List Oper}{o:Oper}{env:Env}{j:Nat}{want:Bool}{d:Tmp}(hg:o.guard=some (j,want))(hd:Fj ops j=some d) :
  fU ops o env=(match env d with|.bool b=>some (b==want)|.tuple _=>some false|_=>none):=by
 unfold fU Fj at *
 rw [hg]
 simp only
 split at hd
 ·rename_i g hj
  rw [hj]
  simp only [hd]
  rfl
 ·cases hd
theorem qp{ρ:Operand→AV}{op:Op}{hp:af}{K1 K2:AV→af→Bool}(hk:∀ v h',K1 v h'=true→K2 v h'=true)(hh:fc op P ρ hp K1=true):fc op P ρ hp K2=true:=by
 have val:∀ {o:Option AV},iG hp K1 o=true→iG hp K2 o=true:=by
  intro o h;cases o with
  |none=>exact h
  |some a=>exact hk _ _ h
 have both:∀ {o:Option (AV×af)},qX K1 o=true→qX K2 o=true:=by
  intro o h;cases o with
  |none=>exact h
  |some a=>exact hk _ _ h
 have heap:∀ {o:Option af},uZ K1 o=true→uZ K2 o=true:=by
  intro o h;cases o with
  |none=>exact h
  |some a=>exact hk _ _ h
 have bind:∀ {α:Type} {o:Option α} {f g:α→Bool},(∀ a,f a=true→g a=true)→ag o f=true→ag o g=true:=by
  intro α o f g hfg h;cases o with
  |none=>exact h
  |some a=>exact hfg _ h
 cases op<;>simp only [fc] at hh ⊢<;>try (first|exact hk _ _ hh|exact val hh|exact both hh|exact heap hh|exact bind (fun _ h=>val h) hh|exact bind (fun _ h=>both h) hh|exact bind (fun _ h=>heap h) hh|exact bind (fun _ h=>hk _ _ h) hh|(exfalso;simp at hh;done))
 case buildSlice t n ps=>unfold nj at hh ⊢;exact bind (fun _ h=>bind (fun _ h=>hk _ _ h) h) hh
 case binOp o t x y u=>
  unfold Hf at hh ⊢
  cases o<;>simp only at hh ⊢<;>first|exact val hh|exact bind (fun _ h=>val h) hh
 case makeFunc fn f c=>
  unfold xo at hh ⊢
  cases fn<;>simp only at hh ⊢<;>first|exact hk _ _ hh|exact hh
 case makeMap t r=>
  unfold An at hh ⊢
  cases r<;>simp only at hh ⊢<;>first|exact hk _ _ hh|exact hh
 case slice t x lo hi mx=>
  unfold Bu at hh ⊢
  cases mx<;>simp only at hh ⊢<;>first|exact bind (fun _ h=>val h) hh|exact hh
 case call c=>
  obtain ⟨cal,args,ts⟩:=c
  unfold oF at hh ⊢
  cases cal with
  |value f=>exact hh
  |invoke r m=>exact hh
  |builtin b=>
   simp only at hh ⊢
   cases b<;>simp only [Ao,D5,Bool.false_eq_true] at hh ⊢
   case append=>
    unfold tX at hh ⊢
    split at hh
    ·exact bind (fun _ h=>both h) hh
    ·exact hh
   case copy=>
    unfold Bv at hh ⊢
    split at hh
    ·exact bind (fun _ h=>both h) hh
    ·exact hh
   case len=>
    unfold D3 at hh ⊢
    split at hh
    ·exact bind (fun _ h=>val h) hh
    ·exact hh
   case delete=>
    unfold tY at hh ⊢
    split at hh
    ·exact bind (fun _ h=>heap h) hh
    ·exact hh
   case min=>
    unfold p7 at hh ⊢
    split at hh
    ·exact val hh
    ·exact hh
   case max=>
    unfold p7 at hh ⊢
    split at hh
    ·exact val hh
    ·exact hh
theorem CK{op:Op}{env:Env}{defs:List kz}{hp:af}{K1 K2:R→Bool}(hk:∀ r,K1 r=true→K2 r=true)(hh:gm op P (ah P) env defs hp K1=true):gm op P (ah P) env defs hp K2=true:=by
 have plain:∀ {op:Op},l7 op P (ah P) env defs hp K1=true→l7 op P (ah P) env defs hp K2=true:=fun h=>qp (fun _ _ h=>hk _ h) h
 cases op<;>simp only [gm] at hh ⊢<;>try exact plain hh
 case call c=>
  obtain ⟨cal,args,ts⟩:=c
  cases cal with
  |builtin b=>exact plain hh
  |invoke r m=>exact plain hh
  |value f=>
   simp only [rD,wM] at hh ⊢
   split at hh
   ·refine an ((rf P).sem hh |>.mono fun o h' h=>?_)
    cases o<;>exact hk _ h
   ·exact hh
 case defer c=>
  obtain ⟨cal,args,ts⟩:=c
  cases cal with
  |builtin b=>exact hh
  |invoke r m=>exact hh
  |value f=>
   simp only [su] at hh ⊢
   split at hh
   ·exact hk _ hh
   ·exact hh
 case panic x=>
  simp only [sw] at hh ⊢
  split at hh
  ·exact hk _ hh
  ·exact hh
 case next x b=>
  simp only [Bw] at hh ⊢
  generalize sr b (evalArg env x) hp=o at hh ⊢
  cases o with
  |none=>exact hh
  |some L=>
   simp only [ag] at hh ⊢
   induction L with
   |nil=>rfl
   |cons p L ih=>
    simp only [jq,Bool.and_eq_true] at hh ⊢
    exact ⟨hk _ hh.1,ih hh.2⟩
theorem mP{env:Env}{n:Nat}{dst:Option Tmp}{v:AV}{k1 k2:Env→Bool}(hk:∀ e,k1 e=true→k2 e=true)(hh:fF env n dst v k1=true):fF env n dst v k2=true:=by
 cases dst with
 |none=>exact hk _ hh
 |some d=>
  simp only [fF] at hh ⊢
  cases hb:Nat.ble (d+1) n with
  |false=>rw [hb] at hh;cases hh
  |true=>rw [hb] at hh;exact hk _ hh
theorem iw{ops:List Oper}{ms:List Nat}{K:St→Bool}:∀ (L:List (Nat×Oper)) (lg:List Read) (sk:List Nat) (s:St),cQ P (ah P) ops ms L lg sk s K=true→er P (ah P) ops ms L lg s K=true
 |[],lg,sk,s,hh=>hh
 |p :: rest,lg,sk,⟨env,n,defs,hp⟩,hh=>by
  have goes:(match dX p.2.op with
   |.pure=>fc p.2.op P (evalArg env) hp fun v _=>fF env n p.2.dst v fun env'=>cQ P (ah P) ops ms rest lg sk ⟨env',n,defs,hp⟩ K
   |.read=>fc p.2.op P (evalArg env) hp fun v _=>fF env n p.2.dst v fun env'=>cQ P (ah P) ops ms rest (⟨p.1,p.2.op,env,v⟩ :: lg) sk ⟨env',n,defs,hp⟩ K
   |.alloc=>fc p.2.op P (evalArg env) hp fun v h'=>fF env n p.2.dst v fun env'=>cQ P (ah P) ops ms rest lg sk ⟨env',n,defs,h'⟩ K
   |.eff=>
    gm p.2.op P (ah P) env defs hp fun
     |.ok v defs' h'=>if gE P ms p.1 h' lg then fF env n p.2.dst v fun env'=>cQ P (ah P) ops ms rest lg sk ⟨env',n,defs',h'⟩ K else false
     |.panic _ _=>false)=true→(match dX p.2.op with
   |.pure=>fc p.2.op P (evalArg env) hp fun v _=>fF env n p.2.dst v fun env'=>er P (ah P) ops ms rest lg ⟨env',n,defs,hp⟩ K
   |.read=>fc p.2.op P (evalArg env) hp fun v _=>fF env n p.2.dst v fun env'=>er P (ah P) ops ms rest (⟨p.1,p.2.op,env,v⟩ :: lg) ⟨env',n,defs,hp⟩ K
   |.alloc=>fc p.2.op P (evalArg env) hp fun v h'=>fF env n p.2.dst v fun env'=>er P (ah P) ops ms rest lg ⟨env',n,defs,h'⟩ K
   |.eff=>
    gm p.2.op P (ah P) env defs hp fun
     |.ok v defs' h'=>if gE P ms p.1 h' lg then fF env n p.2.dst v fun env'=>er P (ah P) ops ms rest lg ⟨env',n,defs',h'⟩ K else false
     |.panic _ _=>false)=true:=by
   intro h
   cases hk:dX p.2.op<;>rw [hk] at h<;>simp only at h ⊢
   ·exact qp (fun v h' h=>mP (fun e h=>iw rest _ _ _ h) h) h
   ·exact qp (fun v h' h=>mP (fun e h=>iw rest _ _ _ h) h) h
   ·exact qp (fun v h' h=>mP (fun e h=>iw rest _ _ _ h) h) h
   ·refine CK (fun r h=>?_) h
    cases r with
    |ok v defs' h'=>
     simp only at h ⊢
     split at h
     ·rename_i hs;rw [if_pos hs];exact mP (fun e h=>iw rest _ _ _ h) h
     ·cases h
    |panic v h'=>cases h
  have skips:∀ sk',(fF env n p.2.dst bG fun env'=>cQ P (ah P) ops ms rest lg sk' ⟨env',n,defs,hp⟩ K)=true→(fF env n p.2.dst bG fun env'=>er P (ah P) ops ms rest lg ⟨env',n,defs,hp⟩ K)=true:=
   fun sk' h=>mP (fun e h=>iw rest _ _ _ h) h
  simp only [cQ] at hh
  simp only [er]
  cases hg:p.2.guard with
  |none=>
   rw [hg] at hh
   have hw:fU ops p.2 env=some true:=by unfold fU;rw [hg]
   rw [hw]
   exact goes hh
  |some g=>
   obtain ⟨j,want⟩:=g
   rw [hg] at hh
   simp only at hh
   split at hh
   ·cases hh
   ·rename_i d hd
    have hwa:=xQ (env:=env) hg hd
    cases hm:HD j sk with
    |true=>
     rw [hm] at hh
     simp only at hh
     split at hh
     ·rename_i vs hv
      rw [hv] at hwa
      rw [hwa]
      exact skips _ hh
     ·cases hh
    |false=>
     rw [hm] at hh
     simp only at hh
     rcases Az hh with ⟨hv,hh⟩|⟨hv,hh⟩
     ·rw [hv] at hwa
      rw [qm hv] at hh
      rw [hwa]
      cases want with
      |true=>exact goes hh
      |false=>exact skips _ hh
     ·rw [hv] at hwa
      rw [qm hv] at hh
      rw [hwa]
      cases want with
      |true=>exact skips _ hh
      |false=>exact goes hh
theorem BE{call:fQ}(hc:eE P call){ops:Array Oper}{K:RS→Bool}{Q:Exit→Act→World→Prop}:∀ (l:List Oper) (i:Nat) (sk:List Nat) (s:St) (a:Act) (w:World) (μ:Mu),(∀ j o,l[j]?=some o→ops[i+j]?=some o) →
  SR w0 μ s a w→(hl:uf w0 μ s.h w K Q)→g9 P call ops.toList l i sk s K=true→wpOps P ops Q (List.range' i l.length) a w
 |[],i,sk,s,a,w,μ,hi,hs,hl,h=>by
  simp only [List.length_nil,List.range'_zero,wpOps]
  exact hl.ok _ _ _ _ h hs (Ext.refl _ _ _)
 |o :: rest,i,sk,s,a,w,μ,hi,hs,hl,h=>by
  have hio:ops[i]?=some o:=by simpa using hi 0 o rfl
  obtain ⟨env,n,defs,hp⟩:=s
  simp only [List.length_cons,List.range'_succ,wpOps,hio]
  have hi':∀ j o',rest[j]?=some o'→ops[i+1+j]?=some o':=fun j o' hj=>by
   have:=hi (j+1) o' (by simpa using hj)
   rwa [show i+1+j=i+(j+1) by omega]
  have goes:fU ops.toList o env=some true→(gm o.op P call env defs hp fun
       |.ok v defs h=>fF env n o.dst v fun env=>g9 P call ops.toList rest (i+1) sk ⟨env,n,defs,h⟩ K
       |.panic v h=>K (.panic v ⟨env,n,defs,h⟩))=true →
    (if Region.wanted o (yielded ops a.tmps) then o.wp P a w (wpOps P ops Q (List.range' (i+1) rest.length)) Q∨(o.asks P a w∧LetsOut Q) else wpOps P ops Q (List.range' (i+1) rest.length) (a.put o.dst undef) w):=by
   intro hw hh
   rw [iY hs.env hw,if_pos rfl]
   refine .inl (wV hs hc ⟨fun v defs' h' a' w' μ' hK hs' hx=>?_,fun v vc h' w' μ' hK hv hs' hx=>?_⟩ hh)
   ·exact BE hc rest (i+1) sk _ a' w' μ' hi' hs' (hl.after hx) (iV hK)
   ·exact hl.panic v vc _ a w' μ' hK hv hs' hx
  have skips:fU ops.toList o env=some false→(fF env n o.dst bG fun env=>g9 P call ops.toList rest (i+1) (i :: sk) ⟨env,n,defs,hp⟩ K)=true →
    (if Region.wanted o (yielded ops a.tmps) then o.wp P a w (wpOps P ops Q (List.range' (i+1) rest.length)) Q∨(o.asks P a w∧LetsOut Q) else wpOps P ops Q (List.range' (i+1) rest.length) (a.put o.dst undef) w):=by
   intro hw hh
   rw [iY hs.env hw]
   simp only [Bool.false_eq_true,if_false]
   have hs':=hs.left o.dst (h':=hp) VR.bG hs.good (Mu.le.refl μ)
   exact BE hc rest (i+1) (i :: sk) ⟨jC env n o.dst bG,n,defs,hp⟩ _ w μ hi' hs' hl (iV hh)
  simp only [g9] at h
  split at h
  ·rename_i hg
   exact goes (by unfold fU;rw [hg]) h
  ·rename_i j want hg
   split at h
   ·cases h
   ·rename_i d hd
    have hwa:=xQ (env:=env) hg hd
    cases hm:HD j sk with
    |true=>
     rw [hm] at h
     simp only at h
     split at h
     ·rename_i vs hv
      rw [hv] at hwa
      exact skips hwa h
     ·cases h
    |false=>
     rw [hm] at h
     simp only at h
     rcases Az h with ⟨hv,h⟩|⟨hv,h⟩
     ·rw [hv] at hwa
      rw [qm hv] at h
      cases want with
      |true=>exact goes hwa h
      |false=>exact skips hwa h
     ·rw [hv] at hwa
      rw [qm hv] at h
      cases want with
      |true=>exact skips hwa h
      |false=>exact goes hwa h
theorem HE(hm:P.follows .mixedOrders=true):∀ (c:Code) (s:St) (a:Act) (w:World) (μ:Mu) (K:AX→St→Bool) (Q:Exit→Act→World→Prop),SR w0 μ s a w →
  rL w0 μ s.h w K Q→au P (ah P) c s K=true→c.wp P Q a w:=by
 have hc:=rf P
 intro c
 induction c with
 |skip=>intro s a w μ K Q hs hl h;exact wp_skip (hl _ _ _ _ _ _ h .normal hs (Ext.refl _ _ _))
 |region id ops draw=>
  intro s a w μ K Q hs hl h
  simp only [au] at h
  cases draw with
  |true=>
   simp only at h
   obtain ⟨plan,hp,h⟩:=eu h
   exact Fg hm hc hp hs (fun s' a' w' μ' hK hs' hx=>hl _ _ _ _ _ _ hK .normal hs' hx) (iw _ _ _ _ h)
  |false=>
   simp only at h
   refine wp_region ?_
   have:=BE (Q:=Q) hc ops.toList 0 [] s a w μ (fun j o hj=>by rw [Nat.zero_add];simpa using hj) hs ⟨fun s' a' w' μ' hK hs' hx=>hl _ _ _ _ _ _ hK .normal hs' hx,fun v vc s' a' w' μ' hK hv hs' hx=>hl _ _ _ _ _ _ hK (.panic v vc hv) hs' hx⟩ h
   rw [List.range_eq_range']
   simpa using this
 |seq x y ihx ihy=>
  intro s a w μ K Q hs hl h
  simp only [au] at h
  refine wp_seq (ihx s a w μ _ _ hs (fun e ex s' a' w' μ' hK hq hs' hx=>?_) h)
  cases hq with
  |normal=>exact ihy s' a' w' μ' K Q hs' (hl.after hx) (by rw [CJ] at hK;exact hK)
  |exit id=>exact hl _ _ _ _ _ _ hK (.exit id) hs' hx
  |ret=>exact hl _ _ _ _ _ _ hK .ret hs' hx
  |panic v vc hv=>exact hl _ _ _ _ _ _ hK (.panic v vc hv) hs' hx
 |cond c x y ihx ihy=>
  intro s a w μ K Q hs hl h
  simp only [au,ay] at h
  have hcv:=hs.eval c
  split at h
  ·rename_i t e
   rw [e] at hcv
   cases t with
   |true=>exact wp_cond_true hcv.fH (ihx s a w μ K Q hs hl h)
   |false=>exact wp_cond_false hcv.fH (ihy s a w μ K Q hs hl h)
  ·cases h
 |block id c ih=>
  intro s a w μ K Q hs hl h
  simp only [au] at h
  refine wp_block (ih s a w μ _ _ hs (fun e ex s' a' w' μ' hK hq hs' hx=>?_) h)
  cases hq with
  |normal=>exact hl _ _ _ _ _ _ hK .normal hs' hx
  |exit id'=>
   simp only [Exit.inBlock]
   simp only [aY] at hK
   by_cases e:id'=id
   ·subst e;rw [sV] at hK;rw [if_pos rfl];exact hl _ _ _ _ _ _ hK .normal hs' hx
   ·rw [if_neg e]
    have hb:Nat.beq id' id=false:=by
     cases hq:Nat.beq id' id with
     |false=>rfl
     |true=>exact absurd (Nat.eq_of_beq_eq_true hq) e
    rw [hb] at hK;exact hl _ _ _ _ _ _ hK (.exit id') hs' hx
  |ret=>exact hl _ _ _ _ _ _ hK .ret hs' hx
  |panic v vc hv=>exact hl _ _ _ _ _ _ hK (.panic v vc hv) hs' hx
 |loop c ih=>
  intro s a w μ K Q hs hl h
  simp only [au,bS] at h
  obtain ⟨I,⟨n0,hI0⟩,hstep⟩:=cz.1 h
  refine wp_loop_rounds (n0+1) ?_
  have key:∀ (N n:Nat) (s:St) (a:Act) (w:World) (μ:Mu),SR w0 μ s a w→rL w0 μ s.h w K Q→I n s→n<N→Code.rounds P c Q N a w:=by
   intro N
   induction N with
   |zero=>intro n s a w μ hs hl hi hn;omega
   |succ N ihn=>
    intro n s a w μ hs hl hi hn
    rw [rounds_succ]
    refine ih s a w μ _ _ hs (fun e ex s' a' w' μ' hK hq hs' hx=>?_) (hstep n s hi)
    cases hq with
    |normal=>
     obtain ⟨m,hm1,hm2⟩:=cz.1 hK
     exact ihn m s' a' w' μ' hs' (hl.after hx) hm2 (by omega)
    |exit id=>exact hl _ _ _ _ _ _ hK (.exit id) hs' hx
    |ret=>exact hl _ _ _ _ _ _ hK .ret hs' hx
    |panic v vc hv=>exact hl _ _ _ _ _ _ hK (.panic v vc hv) hs' hx
  exact key (n0+1) n0 s a w μ hs hl hI0 (by omega)
 |exit id=>intro s a w μ K Q hs hl h;exact wp_exit (hl _ _ _ _ _ _ h (.exit id) hs (Ext.refl _ _ _))
 |ret=>intro s a w μ K Q hs hl h;exact wp_ret (hl _ _ _ _ _ _ h .ret hs (Ext.refl _ _ _))
 |_=>intros;rename_i h;simp [au] at h
def cg:mB:=fun _=>none
theorem aL(P:Program):xP P cg:=fun f g h=>by cases h
theorem aN(hm:P.follows .mixedOrders=true){D:mB}(hD:xP P D){f:FuncId}{fn:Func}{c:Code}(hfn:P.funcs[f]?=some fn)(hb:fn.body=some c)(hname:fn.name≠ "runtime.NumGoroutine")
  {args:List AV} (hlen:args.length≤fn.ntmps) {h:af} {K:Out→af→Bool}
  (hh:au P (ah P) c ⟨aB args,fn.ntmps,[],h⟩ (az P D fn.results.toList K)=true):Sem P f args h K:=by
 refine ⟨⟨fn,c,hfn,hb,hname⟩,fun w0 μ w vs hg hv=>?_⟩
 refine calls_of_wp_defers hfn hb ?_
 refine HE (w0:=w0) hm c ⟨aB args,fn.ntmps,[],h⟩ _ w μ _ _ ⟨ug hv hlen,.nil,hg⟩ (fun e ex s' a' w' μ' hK hq hs' hx=>?_) hh
 cases hq with
 |normal=>exact jP hD _ _ none none s' a' w' μ' hs'.env hs'.defs hs'.good .none hx hK
 |ret=>exact jP hD _ _ none none s' a' w' μ' hs'.env hs'.defs hs'.good .none hx hK
 |exit id=>cases hK
 |panic v vc hv=>exact jP hD _ _ (some v) (some vc) s' a' w' μ' hs'.env hs'.defs hs'.good (.some hv) hx hK
end
end
end Go.AM
namespace Go.AM
open Go Go.RowKit
noncomputable section
def AV.scalar:AV→Bool
 |.undef|.bool _|.int _ _|.str _|.nilp|.nils|.nilm|.nilf|.nili=>true
 |_=>false
mutual
def AV.pure:AV→Bool
 |.ptr _ _|.slice _ _ _ _|.map _=>false
 |.iptr cs _=>AV.pureL cs
 |.islice cs _ _ _=>AV.pureL cs
 |.func _ a b=>AV.pureL a&&AV.pureL b
 |.iface _ v=>AV.pure v
 |.agg cs=>AV.pureL cs
 |.tuple cs=>AV.pureL cs
 |_=>true
def AV.pureL:List AV→Bool
 |[]=>true
 |a :: as=>AV.pure a&&AV.pureL as
end
theorem AV.jh:∀ {l:List AV},AV.pureL l=true→∀ {i:Nat} {x:AV},l[i]?=some x→x.pure=true
 |a :: l,h,0,x,e=>by simp [AV.pureL] at h;simp at e;subst e;exact h.1
 |a :: l,h,i+1,x,e=>by simp [AV.pureL] at h;exact AV.jh h.2 (by simpa using e)
 |[],h,i,x,e=>by simp at e
theorem AV.BF{l m:List AV}(h:AV.pureL l=true)(k:AV.pureL m=true):AV.pureL (l++m)=true:=by
 induction l with
 |nil=>exact k
 |cons a l ih=>simp only [AV.pureL,Bool.and_eq_true,List.cons_append] at h ⊢;exact ⟨h.1,ih h.2⟩
inductive Fz (old:Bool) (h:af):AV→AV→Prop where
 |scalar (x:AV) (hx:x.scalar=true):Fz old h x x
 |iptr (cs cs':List AV) (off:Nat) (ho:old=true) (hl:cs.length=cs'.length) (hr:∀ (i:Nat) (x y:AV),cs[i]?=some x→cs'[i]?=some y→Fz old h x y):Fz old h (.iptr cs off) (.iptr cs' off)
 |islice (cs cs':List AV) (off len sz:Nat) (ho:old=true) (hl:cs.length=cs'.length) (hr:∀ (i:Nat) (x y:AV),cs[i]?=some x→cs'[i]?=some y→Fz old h x y):Fz old h (.islice cs off len sz) (.islice cs' off len sz)
 |ptr (b off:Nat) (cs cs':List AV) (hb:h.get b=some (.cells cs)) (hl:cs.length=cs'.length) (hr:∀ (i:Nat) (x y:AV),cs[i]?=some x→cs'[i]?=some y→Fz old h x y):Fz old h (.ptr b off) (.iptr cs' off)
 |slice (b off len sz:Nat) (cs cs':List AV) (hb:h.get b=some (.cells cs)) (hl:cs.length=cs'.length) (hr:∀ (i:Nat) (x y:AV),cs[i]?=some x→cs'[i]?=some y→Fz old h x y):Fz old h (.slice b off len sz) (.islice cs' off len sz)
 |func (f:FuncId) (xs ys xs' ys':List AV) (h1:xs.length=xs'.length) (h2:ys.length=ys'.length) (r1:∀ (i:Nat) (x y:AV),xs[i]?=some x→xs'[i]?=some y→Fz old h x y)
   (r2:∀ (i:Nat) (x y:AV),ys[i]?=some x→ys'[i]?=some y→Fz old h x y):Fz old h (.func f xs ys) (.func f xs' ys')
 |iface (t:TypeId) (x y:AV) (hr:Fz old h x y):Fz old h (.iface t x) (.iface t y)
 |agg (cs cs':List AV) (hl:cs.length=cs'.length) (hr:∀ (i:Nat) (x y:AV),cs[i]?=some x→cs'[i]?=some y→Fz old h x y):Fz old h (.agg cs) (.agg cs')
 |tuple (cs cs':List AV) (hl:cs.length=cs'.length) (hr:∀ (i:Nat) (x y:AV),cs[i]?=some x→cs'[i]?=some y→Fz old h x y):Fz old h (.tuple cs) (.tuple cs')
structure lf (old:Bool) (h:af) (cs cs':List AV):Prop where
 len:cs.length=cs'.length
 rel:∀ (i:Nat) (x y:AV),cs[i]?=some x→cs'[i]?=some y→Fz old h x y
theorem lf.nil{old:Bool}{h:af}:lf old h [] []:=⟨rfl,by simp⟩
theorem lf.cons{old:Bool}{h:af}{x y:AV}{xs ys:List AV}(h1:Fz old h x y)(h2:lf old h xs ys):lf old h (x :: xs) (y :: ys):=
 ⟨by simp [h2.len],fun i u v a b=>by
  cases i with
  |zero=>simp at a b;subst a;subst b;exact h1
  |succ i=>simp at a b;exact h2.rel i u v a b⟩
theorem lf.append{old:Bool}{h:af}{xs ys us vs:List AV}(h1:lf old h xs us)(h2:lf old h ys vs):lf old h (xs++ys) (us++vs):=by
 induction xs generalizing us with
 |nil=>cases us with
  |nil=>exact h2
  |cons u us=>exact absurd h1.len (by simp)
 |cons x xs ih=>cases us with
  |nil=>exact absurd h1.len (by simp)
  |cons u us=>exact .cons (h1.rel 0 x u rfl rfl) (ih ⟨by simpa using h1.len,fun i a b p q=>h1.rel (i+1) a b (by simpa using p) (by simpa using q)⟩)
mutual
theorem Fz.ez{h:af}:∀ {x:AV},x.pure=true→Fz true h x x
 |.undef,_=>.scalar _ rfl
 |.bool _,_=>.scalar _ rfl
 |.int _ _,_=>.scalar _ rfl
 |.str _,_=>.scalar _ rfl
 |.nilp,_=>.scalar _ rfl
 |.nils,_=>.scalar _ rfl
 |.nilm,_=>.scalar _ rfl
 |.nilf,_=>.scalar _ rfl
 |.nili,_=>.scalar _ rfl
 |.iptr cs off,hp=>.iptr cs cs off rfl rfl (lf.ez hp).rel
 |.islice cs off len sz,hp=>.islice cs cs off len sz rfl rfl (lf.ez hp).rel
 |.func f a b,hp=>by
  simp only [AV.pure,Bool.and_eq_true] at hp
  exact .func f a b a b rfl rfl (lf.ez hp.1).rel (lf.ez hp.2).rel
 |.iface t x,hp=>.iface t x x (Fz.ez hp)
 |.agg cs,hp=>.agg cs cs rfl (lf.ez hp).rel
 |.tuple cs,hp=>.tuple cs cs rfl (lf.ez hp).rel
 |.ptr _ _,hp=>by cases hp
 |.slice _ _ _ _,hp=>by cases hp
 |.map _,hp=>by cases hp
theorem lf.ez{h:af}:∀ {l:List AV},AV.pureL l=true→lf true h l l
 |[],_=>.nil
 |a :: l,hp=>by
  simp only [AV.pureL,Bool.and_eq_true] at hp
  exact .cons (Fz.ez hp.1) (lf.ez hp.2)
end
section
variable {P:Program} {w0 w w':World} {μ μ':Mu} {h h':af}
def Mu.DS(μ:Mu)(w:World)(c:Nat):Option (List Value):=
 match μ.z c with
 |some vs=>some vs
 |none=>@ite _ (∃ b k,μ b=some k∧k.c=c) (Classical.propDecidable _) (match w.heap[c]? with|some (.cells arr _ _)=>some arr.toList|_=>none) none
theorem Mu.sX{c:Nat}{vs:List Value}(hz:μ.z c=some vs):μ.DS w c=some vs:=by unfold Mu.DS;rw [hz]
theorem Mu.Jd{b:Nat}{k:zC}(hb:μ b=some k)(hz:μ.z k.c=none){arr:Array Value}{e:TypeId}{fr:Nat×Nat}(hc:w.heap[k.c]?=some (.cells arr e fr)):μ.DS w k.c=some arr.toList:=by
 unfold Mu.DS;rw [hz];simp only;rw [if_pos ⟨b,k,hb,rfl⟩,hc]
theorem Mu.Fl{c:Nat}{vs:List Value}(h:μ.DS w c=some vs):μ.z c=some vs∨((∃ b k,μ b=some k∧k.c=c)∧∃ arr e fr,w.heap[c]?=some (.cells arr e fr)∧arr.toList=vs):=by
 unfold Mu.DS at h
 split at h
 ·rename_i vs' hz;cases h;exact .inl hz
 ·split at h
  ·rename_i hex
   split at h
   ·rename_i arr e fr hc;cases h;exact .inr ⟨hex,arr,e,fr,hc,rfl⟩
   ·cases h
  ·cases h
def Mu.BG(μ μ':Mu)(w w':World):Mu:=⟨μ.m,fun c=>@ite _ ((∃ vs,μ.z c=some vs)∨w.heap.size≤c) (Classical.propDecidable _) (μ'.DS w' c) none⟩
theorem AA{old:Bool}(hg':Good w0 μ' h' w'){ν:Mu}(hown:∀ b k,μ' b=some k→∀ vs,μ'.DS w' k.c=some vs→ν.z k.c=some vs)(hold:old=true→∀ c vs,μ'.z c=some vs→ν.z c=some vs){x y:AV}(hf:Fz old h' x y):∀ v,VR w0 μ' x v→VR w0 ν y v:=by
 have hblk:∀ b k cs,μ' b=some k→h'.get b=some (.cells cs)→∃ vs:List Value,vs.length=cs.length∧(ν.z k.c).isSome=true∧(∀ (i:Nat) (v:Value),vs[i]?=some v→ν.cell k.c (k.base+i)=some v) ∧
   ∀ (i:Nat) (x:AV) (v:Value),cs[i]?=some x→vs[i]?=some v→VR w0 μ' x v:=by
  intro b k cs hb ho
  obtain ⟨arr,e,fr,h1,h2,h3,h4,h5⟩:=hg'.obj b k _ hb ho
  have hz:ν.z k.c=some arr.toList:=hown b k hb _ (Mu.Jd hb (hg'.apart b k hb) h1)
  refine ⟨(arr.toList.drop k.base).take cs.length,by simp;omega,by rw [hz];rfl,fun i v hi=>?_,fun i x v hx hi=>?_⟩
  ·rw [List.getElem?_take] at hi
   split at hi
   ·rw [List.getElem?_drop] at hi
    unfold Mu.cell;rw [hz];exact hi
   ·cases hi
  ·obtain ⟨v',hv1,hv2⟩:=h5 i x hx
   rw [List.getElem?_take] at hi
   split at hi
   ·rw [List.getElem?_drop,Array.getElem?_toList,hv1] at hi
    cases hi;exact hv2
   ·cases hi
 have rows:∀ {cs cs':List AV} {vs:List Value},cs.length=cs'.length→cs.length=vs.length→(∀ (i:Nat) (x y:AV),cs[i]?=some x→cs'[i]?=some y→∀ v,VR w0 μ' x v→VR w0 ν y v) →
   (∀ (i:Nat) (x:AV) (v:Value),cs[i]?=some x→vs[i]?=some v→VR w0 μ' x v)→∀ (i:Nat) (y:AV) (v:Value),cs'[i]?=some y→vs[i]?=some v→VR w0 ν y v:=by
  intro cs cs' vs hl hl2 ih hr i y v hy hv
  have hi:i<cs'.length:=(List.getElem?_eq_some_iff.1 hy).1
  have hx:cs[i]?=some (cs[i]'(by omega)):=List.getElem?_eq_getElem (by omega)
  exact ih i _ y hx hy v (hr i _ v hx hv)
 induction hf with
 |scalar x hx=>
  intro v hv
  cases hv<;>simp only [AV.scalar,Bool.false_eq_true,reduceCtorEq] at hx<;>constructor
 |iptr cs cs' off ho hl hr ih=>
  intro v hv
  cases hv
  rename_i g o vs hg hv hl' hr'
  refine .iptr cs' off g o vs ?_ (by omega) (fun i v hi=>?_) (rows hl hl' ih hr')
  ·trivial
  ·have:=hv i v hi
   unfold Mu.cell at this ⊢
   obtain ⟨zs,hz,hi2⟩:=Option.bind_eq_some_iff.1 this
   rw [hold ho _ _ hz];exact hi2
 |islice cs cs' off len sz ho hl hr ih=>
  intro v hv
  cases hv
  rename_i cap a g o vs hg hv hl' hr' ha hc
  refine .islice cs' off len sz cap a g o vs ?_ (by omega) (fun i v hi=>?_) (rows hl hl' ih hr') hc ha
  ·trivial
  ·have:=hv i v hi
   unfold Mu.cell at this ⊢
   obtain ⟨zs,hz,hi2⟩:=Option.bind_eq_some_iff.1 this
   rw [hold ho _ _ hz];exact hi2
 |ptr b off cs cs' hb hl hr ih=>
  intro v hv
  cases hv
  rename_i k hk
  obtain ⟨vs,q1,q2,q3,q4⟩:=hblk b k cs hk hb
  exact .iptr cs' off k.c k.base vs trivial (by omega) q3 (rows hl (by omega) ih q4)
 |slice b off len sz cs cs' hb hl hr ih=>
  intro v hv
  cases hv
  rename_i cap a k hk hc ha
  obtain ⟨vs,q1,q2,q3,q4⟩:=hblk b k cs hk hb
  exact .islice cs' off len sz cap a k.c k.base vs trivial (by omega) q3 (rows hl (by omega) ih q4) hc (fun h0=>(ha h0).1)
 |func f xs ys xs' ys' h1 h2 r1 r2 ih1 ih2=>
  intro v hv
  cases hv
  rename_i us vs g1 q1 g2 q2
  exact .func f xs' ys' us vs (by omega) (by omega) (rows h1 g1 ih1 q1) (rows h2 g2 ih2 q2)
 |iface t x y hr ih=>
  intro v hv
  cases hv
  rename_i v hv
  exact .iface t y v (ih v hv)
 |agg cs cs' hl hr ih=>
  intro v hv
  cases hv
  rename_i vs hl' hr'
  exact .agg cs' vs (by omega) (rows hl hl' ih hr')
 |tuple cs cs' hl hr ih=>
  intro v hv
  cases hv
  rename_i vs hl' hr'
  exact .tuple cs' vs (by omega) (rows hl hl' ih hr')
theorem AB{ν:Mu}(hν:ν.m=fun _=>none)(hg:Good w0 μ h w)(hg':Good w0 μ' h' w')(hx:Ext ν af.empty w μ' h' w')(hz:∀ c vs,μ.z c=some vs→ν.z c=some vs) :
  Good w0 (μ.BG μ' w w') h w'∧Ext μ h w (μ.BG μ' w w') h w':=by
 have hf:∀ k,k<w.heap.size→w'.heap[k]?=w.heap[k]?:=fun k hk=>hx.frame k hk (by simp [hν])
 have hnew:∀ c vs,(μ.BG μ' w w').z c=some vs→μ.z c=some vs∨w.heap.size≤c:=by
  intro c vs hc
  have hc':@ite _ ((∃ vs,μ.z c=some vs)∨w.heap.size≤c) (Classical.propDecidable _) (μ'.DS w' c) none=some vs:=hc
  split at hc'
  ·rename_i hor
   rcases hor with ⟨vs',hv⟩|hge
   ·rw [Mu.sX (hx.mono.tV _ _ (hz _ _ hv))] at hc'
    cases hc';exact .inl hv
   ·exact .inr hge
  ·cases hc'
 have hmono:∀ c vs,μ.z c=some vs→(μ.BG μ' w w').z c=some vs:=by
  intro c vs hv
  show @ite _ ((∃ vs,μ.z c=some vs)∨w.heap.size≤c) (Classical.propDecidable _) (μ'.DS w' c) none=some vs
  rw [if_pos (.inl ⟨vs,hv⟩)]
  exact Mu.sX (hx.mono.tV _ _ (hz _ _ hv))
 have hle:μ.le (μ.BG μ' w w'):=⟨fun _ _ h=>h,hmono⟩
 refine ⟨⟨hg'.below,hg.clean,hg.fresh,fun b k hb=>?_,fun c vs hc=>?_,fun b k hb=>?_,fun b k o hb ho=>?_,hg.inj⟩,⟨hle,fun k hk _=>hf k hk,fun _ _ h=>.inl h,hx.size,Nat.le_refl _,fun _ _ _=>rfl,fun _ _ h=>.inl h,hnew⟩⟩
 ·have:=hg.own b k hb;have:=hx.size;omega
 ·have hc':@ite _ ((∃ vs,μ.z c=some vs)∨w.heap.size≤c) (Classical.propDecidable _) (μ'.DS w' c) none=some vs:=hc
  split at hc'
  ·rcases Mu.Fl hc' with h1|⟨_,h1⟩
   ·exact hg'.tV c vs h1
   ·exact h1
  ·cases hc'
 ·cases hq:(μ.BG μ' w w').z k.c with
  |none=>rfl
  |some vs=>
   have hb':μ b=some k:=hb
   rcases hnew _ _ hq with h1|h1
   ·rw [hg.apart b k hb'] at h1;cases h1
   ·have:=(hg.own b k hb').2;omega
 ·have hb':μ b=some k:=hb
  rw [hf _ (hg.own b k hb').2]
  exact lT.mono hle (hg.obj b k o hb' ho)
theorem VR.Je(hz:∀ c vs,μ.z c=some vs→μ'.z c=some vs){x:AV}{v:Value}(hv:VR w0 μ x v)(hp:x.pure=true):VR w0 μ' x v:=by
 have hsome:∀ g,(μ.z g).isSome=true→(μ'.z g).isSome=true:=fun g hg=>by
  obtain ⟨zs,h1⟩:=Option.isSome_iff_exists.1 hg;rw [hz _ _ h1];rfl
 have hcell:∀ g i v,μ.cell g i=some v→μ'.cell g i=some v:=fun g i v hc=>by
  unfold Mu.cell at hc ⊢
  obtain ⟨zs,h1,h2⟩:=Option.bind_eq_some_iff.1 hc
  rw [hz _ _ h1];exact h2
 induction hv with
 |undef v=>exact .undef v
 |bool b=>exact .bool b
 |int k n=>exact .int k n
 |str s=>exact .str s
 |nilp=>exact .nilp
 |ptr b off k hk=>cases hp
 |iptr cs off g o vs hg hl hv hr ih=>exact .iptr cs off g o vs trivial hl (fun i v h=>hcell _ _ _ (hv i v h)) (fun i x v hx hv=>ih i x v hx hv (AV.jh hp hx))
 |nils=>exact .nils
 |slice b off len sz cap a k hk hc ha=>cases hp
 |islice cs off len sz cap a g o vs hg hl hv hr hc ha ih=>exact .islice cs off len sz cap a g o vs trivial hl (fun i v h=>hcell _ _ _ (hv i v h)) (fun i x v hx hv=>ih i x v hx hv (AV.jh hp hx)) hc ha
 |nilm=>exact .nilm
 |map b k hk=>cases hp
 |nilf=>exact .nilf
 |func f xs ys us vs h1 h2 r1 r2 ih1 ih2=>
  simp only [AV.pure,Bool.and_eq_true] at hp
  exact .func f xs ys us vs h1 h2 (fun i x v hx hv=>ih1 i x v hx hv (AV.jh hp.1 hx)) (fun i x v hx hv=>ih2 i x v hx hv (AV.jh hp.2 hx))
 |nili=>exact .nili
 |iface t x v h ih=>exact .iface t x v (ih hp)
 |agg cs vs hl hr ih=>exact .agg cs vs hl (fun i x v hx hv=>ih i x v hx hv (AV.jh hp hx))
 |tuple cs vs hl hr ih=>exact .tuple cs vs hl (fun i x v hx hv=>ih i x v hx hv (AV.jh hp hx))
theorem Fm{old:Bool}{ν:Mu}(hν:ν.m=fun _=>none)(hg':Good w0 μ' h' w')(hx:Ext ν af.empty w μ' h' w')(hz:old=true→∀ c vs,ν.z c=some vs→μ.z c=some vs){x y:AV}(hf:Fz old h' x y){v:Value}(hv:VR w0 μ' x v) :
  VR w0 (μ.BG μ' w w') y v:=by
 have key:∀ c vs,μ'.DS w' c=some vs→((∃ vs,μ.z c=some vs)∨w.heap.size≤c)→(μ.BG μ' w w').z c=some vs:=by
  intro c vs hi hor
  show @ite _ ((∃ vs,μ.z c=some vs)∨w.heap.size≤c) (Classical.propDecidable _) (μ'.DS w' c) none=some vs
  rw [if_pos hor];exact hi
 refine AA hg' (ν:=μ.BG μ' w w') (fun b k hb vs hi=>key _ _ hi (.inr ?_)) (fun ho c vs hc=>key _ _ (Mu.sX hc) ?_) hf v hv
 ·rcases hx.new b k hb with h1|h1|⟨b0,k0,h1,_⟩
  ·rw [hν] at h1;cases h1
  ·exact h1
  ·rw [hν] at h1;cases h1
 ·rcases hx.vM c vs hc with h1|h1
  ·exact .inl ⟨vs,hz ho _ _ h1⟩
  ·exact .inr h1
theorem Sem.frozen{f:FuncId}{args:List AV}{K0 K:Out→af→Bool}(hs:Sem P f args af.empty K0)(hp:AV.pureL args=true)
  (hk:∀ o h',K0 o h'=true→∃ v r,o = .ret v∧Fz true h' v r∧K (.ret r) h=true):Sem P f args h K:=by
 refine ⟨hs.1,fun w0 μ w vs hg hv=>?_⟩
 have hv0:dL w0 μ.bare args vs:=⟨hv.len,fun i x v hx hv'=>VR.Je (μ:=μ) (μ':=μ.bare) (fun _ _ h=>h) (hv.rel i x v hx hv') (AV.jh hp hx)⟩
 refine (hs.2 w0 μ.bare w vs hg.nothing hv0).mono fun e w' hr=>?_
 cases e with
 |returned vc=>
  obtain ⟨v,h',μ',k1,k2,k3,k4⟩:=hr
  obtain ⟨v',r,he,hf,hK⟩:=hk _ _ k1
  cases he
  obtain ⟨g1,g2⟩:=AB rfl hg k3 k4 (fun _ _ h=>h)
  exact ⟨r,h,_,hK,Fm (μ:=μ) rfl k3 k4 (fun _ _ _ h=>h) hf k2,g1,g2⟩
 |panicked c=>
  obtain ⟨v,vc,h',μ',k1,_⟩:=hr
  obtain ⟨v',r,he,_⟩:=hk _ _ k1
  cases he
 |outgrown=>exact hr.elim
theorem Good.PC(hg:Good w0 μ h w):Good w0 ⟨fun _=>none,μ.DS w⟩ af.empty w:=
 ⟨hg.below,af.oN,by simp,by simp,fun c vs hc=>by
  rcases Mu.Fl hc with h1|⟨_,h1⟩
  ·exact hg.tV c vs h1
  ·exact h1,by simp,by simp,by simp⟩
theorem Sem.Mz{f:FuncId}{args args':List AV}{K0 K:Out→af→Bool}(hs:Sem P f args' af.empty K0)(hp:lf true h args args')
  (hk:∀ o h',K0 o h'=true→∃ v r,o = .ret v∧Fz false h' v r∧K (.ret r) h=true):Sem P f args h K:=by
 refine ⟨hs.1,fun w0 μ w vs hg hv=>?_⟩
 have hv0:dL w0 ⟨fun _=>none,μ.DS w⟩ args' vs:=by
  refine ⟨by rw [← hp.len];exact hv.len,fun i y v hy hv'=>?_⟩
  have hi:i<args'.length:=(List.getElem?_eq_some_iff.1 hy).1
  have hx:args[i]?=some (args[i]'(by rw [hp.len];exact hi)):=List.getElem?_eq_getElem _
  exact AA hg (ν:=⟨fun _=>none,μ.DS w⟩) (fun _ _ _ _ h=>h) (fun _ c vs h=>Mu.sX h) (hp.rel i _ y hx hy) v (hv.rel i _ v hx hv')
 refine (hs.2 w0 _ w vs hg.PC hv0).mono fun e w' hr=>?_
 cases e with
 |returned vc=>
  obtain ⟨v,h',μ',k1,k2,k3,k4⟩:=hr
  obtain ⟨v',r,he,hf,hK⟩:=hk _ _ k1
  cases he
  obtain ⟨g1,g2⟩:=AB rfl hg k3 k4 (fun c vs h=>Mu.sX h)
  exact ⟨r,h,_,hK,Fm (μ:=μ) rfl k3 k4 (fun h=>by cases h) hf k2,g1,g2⟩
 |panicked c=>
  obtain ⟨v,vc,h',μ',k1,_⟩:=hr
  obtain ⟨v',r,he,_⟩:=hk _ _ k1
  cases he
 |outgrown=>exact hr.elim
end
end
end Go.AM
namespace Go.AM
open Go Go.RowKit
noncomputable section
def uh(f:AV→Option AV):List AV→Option (List AV)
 |[]=>some []
 |x :: xs=>match f x with
  |none=>none
  |some y=>match uh f xs with
   |none=>none
   |some ys=>some (y :: ys)
def iy(old:Bool)(h:af):Nat→AV→Option AV
 |0,_=>none
 |n+1,x=>match x with
  |.ptr b off=>(match h.get b with
   |some (.cells cs)=>(match uh (iy old h n) cs with|some ds=>some (.iptr ds off)|none=>none)
   |_=>none)
  |.slice b off len sz=>(match h.get b with
   |some (.cells cs)=>(match uh (iy old h n) cs with|some ds=>some (.islice ds off len sz)|none=>none)
   |_=>none)
  |.iptr cs off=>@Bool.rec (fun _=>Option AV) none (match uh (iy old h n) cs with|some ds=>some (.iptr ds off)|none=>none) old
  |.islice cs off len sz=>@Bool.rec (fun _=>Option AV) none (match uh (iy old h n) cs with|some ds=>some (.islice ds off len sz)|none=>none) old
  |.func f a b=>(match uh (iy old h n) a with
   |none=>none
   |some a'=>match uh (iy old h n) b with
    |none=>none
    |some b'=>some (.func f a' b'))
  |.iface t v=>(match iy old h n v with|some w=>some (.iface t w)|none=>none)
  |.agg cs=>(match uh (iy old h n) cs with|some ds=>some (.agg ds)|none=>none)
  |.tuple cs=>(match uh (iy old h n) cs with|some ds=>some (.tuple ds)|none=>none)
  |.map _=>none
  |x=>some x
theorem jX{old:Bool}{h:af}{f:AV→Option AV}(hf:∀ x y,f x=some y→Fz old h x y):∀ {xs ys:List AV},uh f xs=some ys→lf old h xs ys
 |[],ys,e=>by simp only [uh,Option.some.injEq] at e;subst e;exact .nil
 |x :: xs,ys,e=>by
  simp only [uh] at e
  split at e
  ·cases e
  ·rename_i y hy
   split at e
   ·cases e
   ·rename_i ys' hys
    cases e
    exact .cons (hf _ _ hy) (jX hf hys)
theorem nt{old:Bool}{h:af}:∀ (n:Nat) (x y:AV),iy old h n x=some y→Fz old h x y
 |0,x,y,e=>by cases e
 |n+1,x,y,e=>by
  have ih:=fun x y=>nt (old:=old) (h:=h) n x y
  cases x<;>simp only [iy,Option.some.injEq,reduceCtorEq] at e
  case undef=>subst e;exact .scalar _ rfl
  case bool=>subst e;exact .scalar _ rfl
  case int=>subst e;exact .scalar _ rfl
  case str=>subst e;exact .scalar _ rfl
  case nilp=>subst e;exact .scalar _ rfl
  case nils=>subst e;exact .scalar _ rfl
  case nilm=>subst e;exact .scalar _ rfl
  case nilf=>subst e;exact .scalar _ rfl
  case nili=>subst e;exact .scalar _ rfl
  case ptr b off=>
   split at e
   ·rename_i cs hb
    split at e
    ·rename_i ds hd;cases e
     have:=jX ih hd
     exact .ptr b off cs ds hb this.len this.rel
    ·cases e
   ·cases e
  case slice b off len sz=>
   split at e
   ·rename_i cs hb
    split at e
    ·rename_i ds hd;cases e
     have:=jX ih hd
     exact .slice b off len sz cs ds hb this.len this.rel
    ·cases e
   ·cases e
  case iptr cs off=>
   cases ho:old with
   |false=>rw [ho] at e;cases e
   |true=>
    rw [← ho]
    rw [ho] at e
    simp only at e
    split at e
    ·rename_i ds hd;cases e
     rw [← ho] at hd
     have:=jX ih hd
     exact .iptr cs ds off ho this.len this.rel
    ·cases e
  case islice cs off len sz=>
   cases ho:old with
   |false=>rw [ho] at e;cases e
   |true=>
    rw [← ho]
    rw [ho] at e
    simp only at e
    split at e
    ·rename_i ds hd;cases e
     rw [← ho] at hd
     have:=jX ih hd
     exact .islice cs ds off len sz ho this.len this.rel
    ·cases e
  case func f a b=>
   split at e
   ·cases e
   ·rename_i a' ha
    split at e
    ·cases e
    ·rename_i b' hb;cases e
     have h1:=jX ih ha
     have h2:=jX ih hb
     exact .func f a b a' b' h1.len h2.len h1.rel h2.rel
  case iface t v=>
   split at e
   ·rename_i w hw;cases e;exact .iface t v w (ih _ _ hw)
   ·cases e
  case agg cs=>
   split at e
   ·rename_i ds hd;cases e
    have:=jX ih hd
    exact .agg cs ds this.len this.rel
   ·cases e
  case tuple cs=>
   split at e
   ·rename_i ds hd;cases e
    have:=jX ih hd
    exact .tuple cs ds this.len this.rel
   ·cases e
def b6(old:Bool)(n:Nat)(r:AV):Out→af→Bool
 |.ret v,h=>(match iy old h n v with|some r'=>AV.beq r' r|none=>false)
 |_,_=>false
def fm(a0:List AV)(r:AV):List AV→af→(Out→af→Bool)→Bool:=fun args h K=>
 AV.beqL args a0&&K (.ret r) h
def cR(n:Nat)(a0:List AV)(r:AV):List AV→af→(Out→af→Bool)→Bool:=fun args h K=>
 match uh (iy true h n) args with
 |some as=>AV.beqL as a0&&K (.ret r) h
 |none=>false
theorem bX{P:Program}{call:fQ}(hs:eE P call){f:FuncId}{a0:List AV}{n:Nat}{r:AV}(hp:AV.pureL a0=true)(he:call f a0 af.empty (b6 true n r)=true)
  (args:List AV) (h:af) (K:Out→af→Bool) (hK:fm a0 r args h K=true):Sem P f args h K:=by
 simp only [fm,Bool.and_eq_true] at hK
 obtain rfl:=AV.beqL_eq _ _ hK.1
 refine Sem.frozen (hs.sem he) hp fun o h' ho=>?_
 cases o with
 |ret v=>
  simp only [b6] at ho
  split at ho
  ·rename_i r' hr
   obtain rfl:=AV.beq_eq _ _ ho
   exact ⟨v,_,rfl,nt _ _ _ hr,hK.2⟩
  ·cases ho
 |panic v=>cases ho
theorem aU{P:Program}{call:fQ}(hs:eE P call){f:FuncId}{a0:List AV}{n m:Nat}{r:AV}(he:call f a0 af.empty (b6 false n r)=true)
  (args:List AV) (h:af) (K:Out→af→Bool) (hK:cR m a0 r args h K=true):Sem P f args h K:=by
 unfold cR at hK
 split at hK
 ·rename_i as ha
  simp only [Bool.and_eq_true] at hK
  obtain rfl:=AV.beqL_eq _ _ hK.1
  refine Sem.Mz (hs.sem he) (jX (fun x y=>nt m x y) ha) fun o h' ho=>?_
  cases o with
  |ret v=>
   simp only [b6] at ho
   split at ho
   ·rename_i r' hr
    obtain rfl:=AV.beq_eq _ _ ho
    exact ⟨v,_,rfl,nt _ _ _ hr,hK.2⟩
   ·cases ho
  |panic v=>cases ho
 ·cases hK
end
end Go.AM