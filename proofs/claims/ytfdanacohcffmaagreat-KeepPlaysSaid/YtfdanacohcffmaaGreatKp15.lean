/- Arguments of plain types, read as data of the abstract machine. Conditions: none. -/
import Derived.Test.YtfdanacohcffmaaGreatKp14
import Derived.SizedLaws
set_option linter.unusedSimpArgs false
set_option linter.unusedVariables false
namespace Go.AM
open List Nat Bool Option
open Go Go.RowKit Go.ChangeShapes Go.WideShapes
noncomputable section
variable {t e:TypeId} {fs:Array Field} {f:Field} {n:Nat}
section
variable {H:Type} {enc:TypeId×Value->H} {P:Program} {w:World}
def Small(P:Program)(t:TypeId)(d:DataW H):Prop:=∀ n ∈ d.weights P t,n<=reachBytes
theorem KO:reachBytes<=cw:=by decide
theorem lC{ds:List (DataW H)}(ht:P.underlying t=some (.struct fs))(h:Small P t (.agg ds)){j:Nat}{d:DataW H}(hf:fs[j]?=some f)(hd:ds[j]?=some d):Small P f.type d:=by
 intro n hn;refine h n ?_;simp only [DataW.weights,ht];exact DataW.weights_mem_each (ts:=fs.toList.map (·.type)) (j:=j) (by simp [hf]) hd n hn
theorem yh{e:TypeId}{d:DataW H}{n:Nat}(hn:n ∈ d.weights P e):∀ {l:List (DataW H)},d ∈ l->n ∈ DataW.weightsAll P e l
 |x :: l,h=>by
  simp only [DataW.weightsAll,mem_append];rcases mem_cons.1 h with rfl|h
  ·exact .inl hn
  ·exact .inr (yh hn h)
theorem Ol{ds sp:List (DataW H)}(ht:P.underlying t=some (.slice e))(hb:0<P.bytesOf e)(h:Small P t (.slice ds sp)):ds.length<=cw/\∀ d ∈ ds,Small P e d:=by
 refine ⟨?_,fun d hd n hn=>h n ?_⟩
 ·have h1:=h ((ds.length+sp.length)*P.bytesOf e) (by simp [DataW.weights,ht]);have h2:ds.length*1<=(ds.length+sp.length)*P.bytesOf e:=Nat.mul_le_mul (by omega) hb;have:=KO;omega
 ·simp only [DataW.weights,ht,mem_cons,mem_append];exact .inr (.inl (yh hn hd))
theorem Dz{ts:List TypeId}{ds:List (DataW H)}(h:(DataW.weightsEach P ts ds).all (·<=reachBytes)=true){j:Nat}{d:DataW H}(ht:ts[j]?=some t)(hd:ds[j]?=some d):Small P t d:=by
 intro n hn;have:=List.all_eq_true.1 h n (DataW.weights_mem_each ht hd n hn);simpa using this
def RD(enc:TypeId×Value->H)(P:Program)(w:World)(t:TypeId){α:Type}(Ai:α->List AV)(ok:α->Prop):Prop:=
 Reads enc P w t fun d xs=>∃ a,xs=Ai a/\(Small P t d->ok a)
def RD1(enc:TypeId×Value->H)(P:Program)(w:World)(n:Nat)(t:TypeId){α:Type}(Ai:α->List AV)(ok:α->Prop):Prop:=
 Dx enc P w n t fun d xs=>∃ a,xs=Ai a/\(Small P t d->ok a)
theorem Hp(ht:P.underlying t=some (.int .i64)):RD enc P w t encI (fun _=>True):=fun fuel cs d ps h=>by
 obtain ⟨xs,⟨n,rfl,rfl,_⟩,hv⟩:=Uy ht fuel cs d ps h;exact ⟨_,⟨n,rfl,fun _=>trivial⟩,hv⟩
theorem Tj(ht:P.underlying t=some .bool):RD enc P w t Hh (fun _=>True):=fun fuel cs d ps h=>by
 obtain ⟨xs,⟨n,rfl,rfl⟩,hv⟩:=Rt ht fuel cs d ps h;exact ⟨_,⟨n,rfl,fun _=>trivial⟩,hv⟩
theorem zL(ht:P.underlying t=some .string):RD enc P w t encS (fun s=>s.length<=cw):=fun fuel cs d ps h=>by
 obtain ⟨xs,⟨n,rfl,rfl,_⟩,hv⟩:=Mm ht fuel cs d ps h;refine ⟨_,⟨n,rfl,fun hs=>?_⟩,hv⟩;have:=hs n.length (by simp [DataW.weights]);have:=KO;omega
theorem Tk{α:Type}{Ai:α->List AV}{ok:DataW H->α->Prop}:∀ (ds:List (DataW H)) (rows:List (List AV)),rows.length=ds.length ->
  (∀ (i:Nat) (d:DataW H) (r:List AV),ds[i]?=some d->rows[i]?=some r->∃ a,r=Ai a/\ok d a)->∃ as:List α,rows=as.map Ai/\as.length=ds.length/\∀ a ∈ as,∃ d ∈ ds,ok d a
 |[],[],_,_=>⟨[],rfl,rfl,by simp⟩
 |d :: ds,r :: rows,hl,h=>by
  obtain ⟨as,h1,h2,h3⟩:=Tk ds rows (by simpa using hl) fun i d r hd hr=>h (i+1) d r (by simpa using hd) (by simpa using hr);obtain ⟨a,ha,mP⟩:=h 0 d r rfl rfl;refine ⟨a :: as,by simp [ha,h1],by simp [h2],fun b hb=>?_⟩;rcases mem_cons.1 hb with rfl|hb
  ·exact ⟨d,by simp,mP⟩
  ·obtain ⟨d',wN,adL⟩:=h3 b hb;exact ⟨d',by simp [wN],adL⟩
 |[],_ :: _,hl,_=>by simp at hl
 |_ :: _,[],hl,_=>by simp at hl
theorem UA{α:Type}{Ai:α->List AV}{ok:α->Prop}(ht:P.underlying t=some (.slice e)){sz:Nat}(hc:P.cellsOf e=sz)(hz:0<sz)(hb:0<P.bytesOf e)(hR:RD1 enc P w n e Ai ok) :
  RD1 enc P w (n+1) t (fun x:Sl α=>[dR Ai sz x]) (fun x=>x.l.length<=cw/\∀ a ∈ x.l,ok a):=fun cs d ps h=>by
 obtain ⟨xs,hx,hv⟩:=Mn ht (by omega) hR cs d ps h;rcases hx with ⟨rfl,rfl⟩|⟨ds,sp,rows,rfl,rfl,hl,pE⟩
 ·exact ⟨_,⟨none,rfl,fun _=>⟨by simp,by simp⟩⟩,hv⟩
 ·obtain ⟨as,rfl,h2,h3⟩:=Tk (Ai:=Ai) (ok:=fun d a=>Small P e d->ok a) ds rows hl fun i d r hd hr=>(pE i d r hd hr).1;refine ⟨_,⟨some as,?_,fun hs=>?_⟩,hv⟩
  ·rw [hc];show [AV.ax (as.map Ai).flatten 0 ds.length sz] = [AV.ax (as.flatMap Ai) 0 as.length sz];rw [h2,flatMap_def]
  ·obtain ⟨s1,s2⟩:=Ol ht hb hs;refine ⟨by simpa [h2] using s1,fun a ha=>?_⟩;obtain ⟨d,hd,mP⟩:=h3 a ha;exact mP (s2 d hd)
theorem tC{α:Type}{Ai:α->List AV}{ok:α->Prop}(ht:P.underlying t=some (.slice e)){sz:Nat}(hc:P.cellsOf e=sz)(hz:0<sz)(hb:0<P.bytesOf e)(hR:RD enc P w e Ai ok) :
  RD enc P w t (fun x:Sl α=>[dR Ai sz x]) (fun x=>x.l.length<=cw/\∀ a ∈ x.l,ok a):=fun fuel cs d ps h=>by
 cases fuel with
 |zero=>cases h
 |succ n=>exact UA ht hc hz hb (fun cs d ps h=>hR n cs d ps h) cs d ps h
def yj(P:Program):List Field->Nat
 |[]=>0
 |f :: fs=>P.cellsOf f.type+yj P fs
def WN(enc:TypeId×Value->H)(P:Program)(w:World)(n:Nat)(fs:List Field)(o:Nat)(R:List (DataW H)->List AV->Prop):Prop:=
 ∀ (cs:List Value) (ys:List (DataW H×List MemPlace)),ys.length=fs.length ->
  (∀ (j:Nat) (f:Field) (y:DataW H×List MemPlace),fs[j]?=some f->ys[j]?=some y->DataW.trod enc P w 0 (fun _=>true) true n f.type ((cs.drop f.offset).take (P.cellsOf f.type))=some y) ->
  ∃ xs,R (ys.map (·.1)) xs/\fA w (Ah w) xs ((cs.drop o).take (yj P fs))
def RDs(enc:TypeId×Value->H)(P:Program)(w:World)(fs:List Field)(o:Nat)(R:List (DataW H)->List AV->Prop):Prop:=∀ n:Nat,WN enc P w n fs o R
theorem WO(n o:Nat):WN enc P w n [] o fun ds xs=>ds = []/\xs = []:=fun cs ys hl _=>by
 have:ys = []:=eq_nil_of_length_eq_zero (by simpa using hl);subst this;exact ⟨[],⟨rfl,rfl⟩,by simpa [yj] using fA.nil⟩
theorem zM(o:Nat):RDs enc P w [] o fun ds xs=>ds = []/\xs = []:=fun n=>WO n o
theorem UB{fs:List Field}{o:Nat}{R0:DataW H->List AV->Prop}{R1:List (DataW H)->List AV->Prop}(ho:f.offset=o)(h0:Dx enc P w n f.type R0)(h1:WN enc P w n fs (o+P.cellsOf f.type) R1) :
  WN enc P w n (f :: fs) o fun ds xs=>∃ d0 ds' x0 x1,ds=d0 :: ds'/\xs=x0++x1/\R0 d0 x0/\R1 ds' x1:=fun cs ys hl h=>by
 cases ys with
 |nil=>simp at hl
 |cons y ys=>
  have hy:=h 0 f y rfl rfl;obtain ⟨y1,y2⟩:=y;obtain ⟨x0,hx0,KI⟩:=h0 _ y1 y2 hy;obtain ⟨x1,jM,KG⟩:=h1 cs ys (by simpa using hl) fun j f' y' hf hy'=>h (j+1) f' y' (by simpa using hf) (by simpa using hy');refine ⟨x0++x1,⟨y1,_,x0,x1,rfl,rfl,hx0,jM⟩,?_⟩;rw [ho] at KI
  have:(cs.drop o).take (yj P (f :: fs))=(cs.drop o).take (P.cellsOf f.type)++(cs.drop (o+P.cellsOf f.type)).take (yj P fs):=by
   rw [yj,take_add,drop_drop]
  rw [this];exact KI.append KG
theorem jB{fs:List Field}{o:Nat}{R0:DataW H->List AV->Prop}{R1:List (DataW H)->List AV->Prop}(ho:f.offset=o)(h0:Reads enc P w f.type R0)(h1:RDs enc P w fs (o+P.cellsOf f.type) R1) :
  RDs enc P w (f :: fs) o fun ds xs=>∃ d0 ds' x0 x1,ds=d0 :: ds'/\xs=x0++x1/\R0 d0 x0/\R1 ds' x1:=fun n=>UB ho (h0 n) (h1 n)
theorem Ru{R:List (DataW H)->List AV->Prop}(ht:P.underlying t=some (.struct fs))(hc:P.cellsOf t=yj P fs.toList)(hR:WN enc P w n fs.toList 0 R) :
  Dx enc P w (n+1) t fun d xs=>∃ ds,d = .agg ds/\R ds xs:=fun cs d ps h=>by
 obtain ⟨ys,n',hn,he,hl,hlen,hf⟩:=DataW.trod_struct ht h;cases he;obtain rfl:n=n':=by omega
 obtain ⟨xs,hx,hv⟩:=hR cs ys (by simpa using hlen) fun j f y hj hy=>by
  have:=hf j f (by simpa using hj);rw [hy] at this;exact this
 refine ⟨xs,⟨_,rfl,hx⟩,?_⟩;rw [drop_zero,<- hc,<- hl,take_length] at hv;exact hv
theorem sH{R:List (DataW H)->List AV->Prop}(ht:P.underlying t=some (.struct fs))(hc:P.cellsOf t=yj P fs.toList)(hR:RDs enc P w fs.toList 0 R) :
  Reads enc P w t fun d xs=>∃ ds,d = .agg ds/\R ds xs:=fun fuel cs d ps h=>by
 cases fuel with
 |zero=>cases h
 |succ n=>exact Ru ht hc (hR n) cs d ps h
end
end
end Go.AM