/- From a row's arguments to the abstract machine's data, and back. Conditions: none. -/
import Derived.Test.YthmbnnjimbjplaaGreatDoorTu9
import Derived.ProofKit
import Derived.OpenShut
import Derived.Carry
import Derived.ChangeSame
set_option linter.unusedSimpArgs false
set_option linter.unusedVariables false
namespace Go.AM
open List Nat Bool Option
open Go Go.RowKit Go.ChangeShapes Go.WideShapes
noncomputable section
def ny(w:World):Mu:=⟨fun _=>none,fun c=>match w.heap[c]? with|some (.cells arr _ _)=>some arr.toList|_=>none⟩
theorem Hr(w:World):Good w (ny w) Heap.empty w:=by
 refine ⟨Below.refl _ _,Heap.jR,by simp [ny],by simp [ny],fun c vs hc=>?_,by simp [ny],by simp [ny],by simp [ny]⟩;simp only [ny] at hc;split at hc
 ·rename_i arr e fr h;cases hc;exact ⟨arr,e,fr,h,rfl⟩
 ·cases hc
def FK:Out->Heap->Bool
 |.ret (.bool true),_=>true
 |_,_=>false
theorem D5{P:Program}{f:FuncId}{args:List AV}(hs:Sem P f args Heap.empty FK){w:World}{vs:Array Value}(hv:cj w (ny w) args vs.toList) :
  Calls P f vs w fun e w'=>e = .returned (.bool true)/\Below w.heap.size w w':=by
 refine (hs.2 w (ny w) w vs.toList (Hr w) hv).mono fun e w' hr=>?_
 cases e with
 |returned vc=>
  obtain ⟨v,h',μ',k1,k2,k3,k4⟩:=hr;unfold FK at k1;split at k1
  ·rename_i hv;cases hv;rw [k2.eH];exact ⟨rfl,k3.below⟩
  ·cases k1
 |panicked c=>
  obtain ⟨v,vc,h',μ',k1,_⟩:=hr;cases k1
 |outgrown=>exact hr.elim
section
variable {H:Type} {enc:TypeId×Value->H} {P:Program} {w:World}
def ru(enc:TypeId×Value->H)(P:Program)(w:World)(fuel:Nat)(t:TypeId)(R:DataW H->List AV->Prop):Prop:=
 ∀ (cs:List Value) (d:DataW H) (ps:List MemPlace),DataW.trod enc P w 0 (fun _=>true) true fuel t cs=some (d,ps)->∃ xs,R d xs/\cj w (ny w) xs cs
def Reads(enc:TypeId×Value->H)(P:Program)(w:World)(t:TypeId)(R:DataW H->List AV->Prop):Prop:=
 ∀ (fuel:Nat) (cs:List Value) (d:DataW H) (ps:List MemPlace),DataW.trod enc P w 0 (fun _=>true) true fuel t cs=some (d,ps)->∃ xs,R d xs/\cj w (ny w) xs cs
theorem D6{t:TypeId}{k:IntKind}(ht:P.underlying t=some (.int k)):Reads enc P w t fun d xs=>∃ n,d = .lit (.int k n)/\xs = [.int k n]/\(Lit.int k n).wf=true:=by
 intro fuel cs d ps h
 cases fuel with
 |zero=>cases h
 |succ n=>
  unfold DataW.trod at h;rw [ht] at h
  match cs,h with
  |[.int k' m],h=>
   simp only at h;split at h
   ·rename_i hc;obtain ⟨rfl,hw⟩:=hc;simp at h;exact ⟨[.int k' m],⟨m,h.1.symm,rfl,hw⟩,.cons (.int k' m) .nil⟩
   ·cases h
theorem zc{t:TypeId}(ht:P.underlying t=some .string):Reads enc P w t fun d xs=>∃ s,d = .lit (.string s)/\xs = [.str s]/\s.length<=maxLen:=by
 intro fuel cs d ps h
 cases fuel with
 |zero=>cases h
 |succ n=>
  unfold DataW.trod at h;rw [ht] at h
  match cs,h with
  |[.string s],h=>
   simp only at h;split at h
   ·rename_i hc;simp at h;have e:s.data.toList.length=s.size:=by rw [Array.length_toList];rfl
    exact ⟨[.str s.data.toList],⟨_,h.1.symm,rfl,by omega⟩,.cons (.str s) .nil⟩
   ·cases h
theorem mapM_some{α β:Type}{f:α->Option β}:∀ {l:List α} {r:List β},l.mapM f=some r->r.length=l.length/\∀ (i:Nat) (a:α) (b:β),l[i]?=some a->r[i]?=some b->f a=some b
 |[],r,h=>by simp at h;subst h;simp
 |x :: l,r,h=>by
  simp only [mapM_cons,bind_eq_bind,pure_def] at h;obtain ⟨y,hy,h⟩:=bind_eq_some_iff.1 h;obtain ⟨ys,Kr,h⟩:=bind_eq_some_iff.1 h;simp at h;subst h;obtain ⟨h1,h2⟩:=mapM_some Kr;refine ⟨by simp [h1],fun i a b ha hb=>?_⟩
  cases i with
  |zero=>simp at ha hb;subst ha;subst hb;exact hy
  |succ i=>simp at ha hb;exact h2 i a b ha hb
theorem jW{a:Addr}{n:Nat}{cs:List Value}(h:w.cells? 0 a n=some cs):cs.length=n/\∀ (i:Nat) (v:Value),cs[i]?=some v->w.cell? (a.add i)=some v:=by
 unfold World.cells? at h;rw [if_pos (zero_le _)] at h;obtain ⟨h1,h2⟩:=mapM_some h;refine ⟨by simpa using h1,fun i v hv=>?_⟩
 have hi:i<n:=by
  have:=(fR.1 hv).1;simpa [h1] using this
 exact h2 i i v (by simp [hi]) hv
theorem Dl{a:Addr}{v:Value}(h:w.cell? a=some v):a.spot=none/\(ny w).cell a.block a.off=some v:=by
 unfold World.cell? at h;split at h
 ·rename_i arr e fr hb;split at h
  ·cases h
  ·rename_i hs;refine ⟨by simpa using hs,?_⟩;unfold Mu.cell ny;simp only [hb,bind_some];rw [Array.getElem?_toList];exact h
 ·cases h
theorem u9(a:Addr)(n:Nat):(a.add n).block=a.block:=by unfold Addr.add;split<;>rfl
theorem AG(a:Addr)(n:Nat):(a.add n).off=a.off+n:=by
 unfold Addr.add;split
 ·rename_i h;rw [h];rfl
 ·rfl
theorem add_zero'(a:Addr):a.add 0=a:=by simp [Addr.add]
theorem va{μ:Mu}{g sz:Nat}:∀ (cl:List (List Value)) (off:Nat),(∀ (i:Nat) (c:List Value),cl[i]?=some c->c.length=sz/\∀ (r:Nat) (v:Value),c[r]?=some v->μ.cell g (off+i*sz+r)=some v) ->
  ∀ (j:Nat) (v:Value),cl.flatten[j]?=some v->μ.cell g (off+j)=some v
 |[],off,h,j,v,hj=>by simp at hj
 |c :: cl,off,h,j,v,hj=>by
  obtain ⟨h1,h2⟩:=h 0 c rfl;rw [flatten_cons] at hj;by_cases hlt:j<c.length
  ·rw [getElem?_append_left hlt] at hj;have:=h2 j v hj;simpa using this
  ·rw [getElem?_append_right (by omega)] at hj
   have:=va cl (off+sz) (fun i c' hc=>by
    obtain ⟨q1,q2⟩:=h (i+1) c' (by simpa using hc);refine ⟨q1,fun r v hv=>?_⟩;have:=q2 r v hv;rw [Nat.add_mul,Nat.one_mul] at this
    rwa [show off+sz+i*sz+r=off+(i*sz+sz)+r by omega]) (j-c.length) v hj
   rwa [show off+sz+(j-c.length)=off+j by omega] at this
theorem AH{w0:World}{μ:Mu}:∀ (rows:List (List AV)) (cl:List (List Value)),rows.length=cl.length->(∀ (i:Nat) (r:List AV) (c:List Value),rows[i]?=some r->cl[i]?=some c->cj w0 μ r c)->cj w0 μ rows.flatten cl.flatten
 |[],[],_,_=>.nil
 |r :: rows,c :: cl,hl,h=>by
  rw [flatten_cons,flatten_cons];exact (h 0 r c rfl rfl).append (AH rows cl (by simpa using hl) fun i r c hr hc=>h (i+1) r c (by simpa using hr) (by simpa using hc))
 |[],_ :: _,hl,_=>by simp at hl
 |_ :: _,[],hl,_=>by simp at hl
theorem ry{R:DataW H->List AV->Prop}{sz:Nat}{nq:Nat->Option (List Value)}{e:TypeId}{fuel:Nat}(hR:ru enc P w fuel e R) :
  ∀ (idx:List Nat) (elems:List (DataW H×List MemPlace)),(∀ i c,nq i=some c->c.length=sz)->idx.mapM (fun i=>(nq i).bind (DataW.trod enc P w 0 (fun _=>true) true fuel e))=some elems ->
   ∃ (rows:List (List AV)) (cl:List (List Value)),rows.length=idx.length/\cl.length=idx.length/\elems.length=idx.length /\
    (∀ (i k:Nat) (c:List Value),idx[i]?=some k->cl[i]?=some c->nq k=some c) /\
    (∀ (i:Nat) (r:List AV) (c:List Value),rows[i]?=some r->cl[i]?=some c->cj w (ny w) r c) /\
    (∀ (i:Nat) (d:DataW H) (r:List AV),(elems.map (·.1))[i]?=some d->rows[i]?=some r->R d r/\r.length=sz)
 |[],elems,hsz,h=>by
  simp at h;subst h;exact ⟨[],[],rfl,rfl,rfl,by simp,by simp,by simp⟩
 |k :: idx,elems,hsz,h=>by
  simp only [mapM_cons,bind_eq_bind,pure_def] at h;obtain ⟨x,hx,h⟩:=bind_eq_some_iff.1 h;obtain ⟨xs,GA,h⟩:=bind_eq_some_iff.1 h;simp at h;subst h;obtain ⟨c,hc,ht⟩:=bind_eq_some_iff.1 hx;obtain ⟨d,ps⟩:=x;obtain ⟨r,hr,hv⟩:=hR c d ps ht;obtain ⟨rows,cl,l1,l2,l3,q1,q2,q3⟩:=ry hR idx xs hsz GA;refine ⟨r :: rows,c :: cl,by simp [l1],by simp [l2],by simp [l3],fun i k' c' hi zR=>?_,fun i r' c' ua zR=>?_,fun i d' r' nM ua=>?_⟩
  ·cases i with
   |zero=>simp at hi zR;subst hi;subst zR;exact hc
   |succ i=>exact q1 i k' c' (by simpa using hi) (by simpa using zR)
  ·cases i with
   |zero=>simp at ua zR;subst ua;subst zR;exact hv
   |succ i=>exact q2 i r' c' (by simpa using ua) (by simpa using zR)
  ·cases i with
   |zero=>simp at nM ua;subst nM;subst ua;exact ⟨hr,by rw [hv.len];exact hsz k c hc⟩
   |succ i=>exact q3 i d' r' (by simpa using nM) (by simpa using ua)
theorem ze{t e:TypeId}{R:DataW H->List AV->Prop}{n:Nat}(ht:P.underlying t=some (.slice e))(hsz:0<P.cellsOf e)(hR:ru enc P w n e R) :
  ru enc P w (n+1) t fun d xs=>(d = .nil/\xs = [.aE])\/∃ (ds sp:List (DataW H)) (rows:List (List AV)),d = .slice ds sp/\xs = [.aL rows.flatten 0 ds.length (P.cellsOf e)]/\rows.length=ds.length /\
   ∀ (i:Nat) (d:DataW H) (r:List AV),ds[i]?=some d->rows[i]?=some r->R d r/\r.length=P.cellsOf e:=by
 intro cs d ps h
 ·skip
  unfold DataW.trod at h;rw [ht] at h
  match cs,h with
  |[.slice none 0 0],h=>
   simp at h;exact ⟨[.aE],.inl ⟨h.1.symm,rfl⟩,.cons .aE .nil⟩
  |[.slice (some a) len cap],h=>
   simp only at h;split at h
   ·rename_i hc;obtain ⟨_,hle,Hs⟩:=hc;obtain ⟨elems,he,h⟩:=bind_eq_some_iff.1 h;obtain ⟨rest,IG,h⟩:=map_eq_some_iff.1 h;simp at h;obtain ⟨rfl,rfl⟩:=h;have hlen:∀ i c,w.cells? 0 (a.add (i*P.cellsOf e)) (P.cellsOf e)=some c->c.length=P.cellsOf e:=fun i c hc=>(jW hc).1;obtain ⟨rows,cl,l1,l2,l3,q1,q2,q3⟩:=ry hR (List.range len) elems hlen he;simp only [length_range] at l1 l2 l3
    have nw:∀ c,w.cells? 0 (a.add (0*P.cellsOf e)) (P.cellsOf e)=some c->a.spot=none:=fun c hc=>by
     obtain ⟨c1,c2⟩:=jW hc;have:c[0]?=some (c[0]'(by omega)):=fc _;have:=(Dl (c2 0 _ this)).1;rw [Nat.zero_mul,add_zero',add_zero'] at this;exact this
    have ha:cap≠0->a=⟨a.block,a.off+0,none⟩:=fun h0=>by
     have hs:a.spot=none:=by
      by_cases Ri:len=0
      ·subst Ri;simp only [if_true] at IG;obtain ⟨O0,O1,m1,m2,m3,r1,_⟩:=ry (nq:=fun j=>w.cells? 0 (a.add ((0+j)*P.cellsOf e)) (P.cellsOf e)) hR (List.range (cap-0)) rest (fun i c hc=>(jW hc).1) IG;simp only [length_range] at m1 m2;have:O1[0]?=some (O1[0]'(by omega)):=fc _;exact nw _ (r1 0 0 _ (by rw [getElem?_range (by omega)]) this)
      ·have:cl[0]?=some (cl[0]'(by omega)):=fc _;exact nw _ (q1 0 0 _ (by rw [getElem?_range (by omega)]) this)
     cases a;simp_all
    have mC:=AH rows cl (by omega) q2;refine ⟨[.aL rows.flatten 0 len (P.cellsOf e)],.inr ⟨elems.map (·.1),rest.map (·.1),rows,rfl,by simp [l3],by simp [l1,l3],q3⟩,.cons ?_ .nil⟩;refine .aL rows.flatten 0 len (P.cellsOf e) cap a a.block a.off cl.flatten trivial mC.len (fun j v hj=>?_) mC.rel hle ha;refine va (sz:=P.cellsOf e) cl a.off (fun i c hc=>?_) j v hj;have hi:i<len:=by have:=(fR.1 hc).1;omega
    have Rj:=q1 i i c (by simp [hi]) hc;obtain ⟨c1,c2⟩:=jW Rj;refine ⟨c1,fun r v hv=>?_⟩;have:=(Dl (c2 r v hv)).2;rw [u9,u9,AG,AG] at this;exact this
   ·cases h
theorem ve{t:TypeId}{R:DataW H->List AV->Prop}(hR:Reads enc P w t R){v:Value}{d:DataW H}{ps:List MemPlace}(h:DataW.Trod enc P w 0 (fun _=>true) true t v d ps):∃ xs,R d xs/\cj w (ny w) xs v.cells.toList:=by
 obtain ⟨fuel,h⟩:=h;exact hR fuel _ d ps h
theorem D7{f:Func}{s:ChangeSpec}{apart fresh handsOn again:Bool}{W W':World}{args:Array Value}{ds gs:List (DataW H)}{before:List MemPlace}{tb:TypeId}
  (II:s.vars = []) (Da:∀ ds:List (DataW H),ds.length=f.params.toList.length->s.fn H ds = { results:=[.lit (.bool true)],args:=ds }) (Hp:f.resultTypes = #[tb]) (LC:P.underlying tb=some .bool)
  (hl:laidOutB P=true) (Nw:∀ t ∈ f.params.toList,P.readableRec t=true/\t<P.types.size)
  (hW:DataW.Whole enc P f.params.toList s.vars apart W args.toList ds gs before) (hb:Below W.heap.size W W'):s.post enc P f apart fresh handsOn again W args (.bool true) W':=by
 have hold:∀ p ∈ before,p.block<W.heap.size:=fun p hp=>hW.lt p hp;obtain ⟨p,q,hA,hV,rfl,hz,hn⟩:=hW;have Nx:=hV;rw [II] at Nx
 obtain ⟨rfl,rfl⟩:gs = []/\q = []:=by
  cases gs with
  |nil=>exact ⟨rfl,Nx⟩
  |cons g gs=>exact Nx.elim
 have hlen:∀ (ts:List TypeId) (vs:List Value) (ds:List (DataW H)) (ps:List MemPlace),DataW.TrodAll enc P W 0 (fun _=>true) true ts vs ds ps->ds.length=ts.length:=by
  intro ts
  induction ts with
  |nil=>intro vs ds ps h;obtain ⟨rfl,rfl,rfl⟩:=trodAll_nil h;rfl
  |cons t ts ih=>
   intro vs ds ps h;obtain ⟨v,O2,d,Kz,a,b,rfl,rfl,rfl,h1,h2⟩:=trodAll_cons h;simp [ih _ _ _ h2]
 have hds:=hlen _ _ _ _ hA;have FL:=Da (ds++[]) (by simpa using hds)
 have stays:∀ (sp:Nat->Bool) (ts:List TypeId) (vs:List Value) (ds:List (DataW H)) (ps:List MemPlace),(∀ t ∈ ts,P.readableRec t=true/\t<P.types.size)->(∀ x ∈ ps,x.block<W.heap.size)->(∀ x ∈ ps,sp x.block=true) ->
   DataW.TrodAll enc P W 0 (fun _=>true) true ts vs ds ps->DataW.TrodAll enc P W' 0 sp true ts vs ds ps:=by
  intro sp ts
  induction ts with
  |nil=>intro vs ds ps _ _ _ h;obtain ⟨rfl,rfl,rfl⟩:=trodAll_nil h;exact rfl
  |cons t ts ih=>
   intro vs ds ps ht h1 h2 h;obtain ⟨v,O2,d,Kz,a,b,rfl,rfl,rfl,g1,g2⟩:=trodAll_cons h;obtain ⟨r1,r2⟩:=ht t (by simp);exact ⟨a,b,WideElems.Trod_stays hl r1 r2 g1 (fun x hx=>hb.same (h1 x (by simp [hx]))) (fun x hx=>h2 x (by simp [hx])),ih _ _ _ (fun t' h'=>ht t' (by simp [h'])) (fun x hx=>h1 x (by simp [hx])) (fun x hx=>h2 x (by simp [hx])) g2,rfl⟩
 have hp:∀ x ∈ p,x.block<W.heap.size:=fun x hx=>hold x (by simp [hx])
 have IJ:∀ (b:Nat) (sp:Nat->Bool) (hd:Bool),DataW.TrodAll enc P W' b sp hd f.resultTypes.toList ((Value.bool true).resultList f.resultTypes.size) (s.fn H (ds++[])).results []:=by
  intro b sp hd;rw [FL,Hp];exact trodAll_cons_mk (shut_bool LC _) trodAll_mk0
 have sq:∀ sp:Nat->Bool,(∀ x ∈ p,sp x.block=true)->DataW.TrodAll enc P W' 0 sp true f.params.toList args.toList (s.fn H (ds++[])).args p:=by
  intro sp hsp;rw [FL];simpa using stays sp _ _ _ _ Nw hp hsp hA
 have FM:∀ sp:Nat->Bool,DataW.TrodVars enc P W' sp s.vars (s.fn H (ds++[])).vars []:=by
  intro sp;rw [FL,II];exact rfl
 refine ⟨ds,[],p++[],[],p,[],⟨p,[],hA,hV,rfl,hz,hn⟩,IJ _ _ _,sq _ (fun x hx=>by simpa using hp x hx),FM _,?_,fun _=>⟨ok_one Hp rfl (okWide_bool_mk LC _),_,_,([]++p)++[],⟨[]++p,[],trodAll_append (sq _ (fun _ _=>rfl)) (IJ _ _ _),FM _,rfl,?_,?_⟩,?_⟩⟩
 ·refine ⟨hb.os,hb.output,fun i hi=>?_⟩;have:=(World.keptBut_refl W (fun MB=>MB ∈ p++[]/\(MB ∈ ([]:List MemPlace)\/MB ∈ p\/MB ∈ ([]:List MemPlace)))).2.2 i hi;rw [hb.block i hi];exact this
 ·intro b off hx;have hlt:=hp (.cell b off) (by simpa using hx);have hfz:=hz b off (by simpa using hx);rw [<- hfz];exact hb.frozen (p:=⟨b,off,none⟩) hlt
 ·intro ha;simpa using hn ha
 ·intro x hx _;simpa using hx
end
end
end Go.AM