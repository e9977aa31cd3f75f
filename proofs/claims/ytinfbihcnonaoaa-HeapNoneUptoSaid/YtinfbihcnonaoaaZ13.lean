/- A heap's readers: there, Room, Used, Old; New. -/
import Derived.Test.YtinfbihcnonaoaaZ12
set_option linter.unusedVariables false
set_option linter.unusedSimpArgs false
set_option maxRecDepth 20000
set_option linter.defProp false
namespace Go.Proofs.Ytinfbihcnonaoaa
open Go Go.Av
section
def kG:=And.intro (And.intro (And.intro (And.intro (And.intro @jN @rA) (And.intro @kI (And.intro @gT @eC))) (And.intro (And.intro @kJ @jO) (And.intro @gX (And.intro @gC @gY)))) (And.intro (And.intro (And.intro @fP @jF) (And.intro @jC (And.intro @jE @jD))) (And.intro (And.intro @gF @eY) (And.intro @eZ (And.intro @eQ @eJ))))) (And.intro (And.intro (And.intro (And.intro @eW @jM) (And.intro @cQ (And.intro @cP @cD))) (And.intro (And.intro @aE.flat_enc @aE.isv_enc) (And.intro @aE.fold_enc (And.intro @aW @aO)))) (And.intro (And.intro (And.intro @aP @aM) (And.intro @aX (And.intro @bP @aQ))) (And.intro (And.intro @bJ @cZ) (And.intro @dL (And.intro @cY @dA)))))
variable {G:Nat ->AV}
def gR(σ:AS)(v:AV):Prop:=v= .nilptr \/ ∃ hb,v= .ptr hb 0 /\ ∃ W T r o,σ.box hb=some [.nilptr,W,T, .int .i64 r, .int .i64 o]
theorem kH{σ0 σ:AS}{hb ab mb:Nat}{p:PH}(h:Hp σ0 σ hb ab mb p):aH Try.prog G 37 [.ptr hb 0] σ fun r s=>r= .bool true /\ s=σ:=by
 obtain⟨oX,oW,oT,X,W,T,h⟩:=h
 have hbx:=h.hbx
 clear h
 refine aH.of_awp aG Try.func37 rfl (by kernel_rfl) (by kernel_rfl) (by simp[Try.ntmps37]) Try.results37 ?_
 repeat'(first|refine xs ?_ ?_ <;>intros|(refine wn ?_;intro bx hbx;try simp only[fb]at hbx)|refine bE ?_|(refine aB ?_;intro bx hbx;(try simp only[fb]at hbx))|refine aD ?_|((with_reducible refine And.intro ?_ ?_);omega)|refine aA (d':=⟨⟩) ?_|refine bG (by kernel_rfl) ?_|refine bD ?_ (by repeat' first|exact lr _|assumption|refine ls ?_ ?_|refine lt ?_ ?_|simp only[*];done|simp only[fb, *,not_false_eq_true,and_self];done|exact lf ‹_› (by simp only[*]))|refine aC ?_ (by repeat' first|exact lr _|assumption|refine ls ?_ ?_|refine lt ?_ ?_|simp only[*];done|simp only[fb, *,not_false_eq_true,and_self];done|exact lf ‹_› (by simp only[*]))|simp -dsimp only[↓bp,bq,br,seval,kG, *]|refine wz ?_|fail)
 all_goals skip
theorem fB{σ:AS}{v:AV}(h:gR σ v):aH Try.prog G 37 [v] σ fun r s=>r= .bool false /\ s=σ:=by
 rcases h with rfl|⟨hb,rfl,W,T,r,o,hbx⟩
 ·refine aH.of_awp aG Try.func37 rfl (by kernel_rfl) (by kernel_rfl) (by simp[Try.ntmps37]) Try.results37 ?_
  repeat'(first|refine xs ?_ ?_ <;>intros|(refine wn ?_;intro bx hbx;try simp only[fb]at hbx)|refine bE ?_|(refine aB ?_;intro bx hbx;(try simp only[fb]at hbx))|refine aD ?_|((with_reducible refine And.intro ?_ ?_);omega)|refine aA (d':=⟨⟩) ?_|refine bG (by kernel_rfl) ?_|refine bD ?_ (by repeat' first|exact lr _|assumption|refine ls ?_ ?_|refine lt ?_ ?_|simp only[*];done|simp only[fb, *,not_false_eq_true,and_self];done|exact lf ‹_› (by simp only[*]))|refine aC ?_ (by repeat' first|exact lr _|assumption|refine ls ?_ ?_|refine lt ?_ ?_|simp only[*];done|simp only[fb, *,not_false_eq_true,and_self];done|exact lf ‹_› (by simp only[*]))|simp -dsimp only[↓bp,bq,br,seval,kG, *]|refine wz ?_|fail)
  all_goals skip
 ·refine aH.of_awp aG Try.func37 rfl (by kernel_rfl) (by kernel_rfl) (by simp[Try.ntmps37]) Try.results37 ?_
  repeat'(first|refine xs ?_ ?_ <;>intros|(refine wn ?_;intro bx hbx;try simp only[fb]at hbx)|refine bE ?_|(refine aB ?_;intro bx hbx;(try simp only[fb]at hbx))|refine aD ?_|((with_reducible refine And.intro ?_ ?_);omega)|refine aA (d':=⟨⟩) ?_|refine bG (by kernel_rfl) ?_|refine bD ?_ (by repeat' first|exact lr _|assumption|refine ls ?_ ?_|refine lt ?_ ?_|simp only[*];done|simp only[fb, *,not_false_eq_true,and_self];done|exact lf ‹_› (by simp only[*]))|refine aC ?_ (by repeat' first|exact lr _|assumption|refine ls ?_ ?_|refine lt ?_ ?_|simp only[*];done|simp only[fb, *,not_false_eq_true,and_self];done|exact lf ‹_› (by simp only[*]))|simp -dsimp only[↓bp,bq,br,seval,kG, *]|refine wz ?_|fail)
  all_goals skip
theorem gR.one{σ:AS}{v:AV}(h:gR σ v):one v=true:=by rcases h with rfl|⟨hb,rfl,_⟩ <;>rfl
theorem gR.flat{σ:AS}{v:AV}(h:gR σ v):flat v=[v]:=by rcases h with rfl|⟨hb,rfl,_⟩ <;>rfl
theorem gR.isv{σ:AS}{v:AV}(h:gR σ v):isv v=true:=by rcases h with rfl|⟨hb,rfl,_⟩ <;>rfl
theorem B6a{σ0 σ:AS}{hb ab mb:Nat}{p:PH}(h:Hp σ0 σ hb ab mb p):aH Try.prog G 27 [.ptr hb 0] σ fun r s=>r= .int .i64 p.words.length /\ s=σ:=by
 have ht:=kH (G:=G) h
 obtain⟨oX,oW,oT,X,W,T,h⟩:=h
 have hbx:=h.hbx
 have hlW:=h.rW.len (P:=Try.prog) (ty:=50)
 rw[qJ]at hlW
 simp only[List.length_map,Option.isSome_some,if_true]at hlW
 clear h
 refine aH.of_awp aG Try.func27 rfl (by kernel_rfl) (by kernel_rfl) (by simp[Try.ntmps27]) Try.results27 ?_
 repeat'(first|refine xs ?_ ?_ <;>intros|(refine wn ?_;intro bx hbx;try simp only[fb]at hbx)|((refine aH.mono ht ?_;rintro r s ⟨rfl,rfl⟩))|refine bE ?_|(refine aB ?_;intro bx hbx;(try simp only[fb]at hbx))|refine aD ?_|((with_reducible refine And.intro ?_ ?_);omega)|refine aA (d':=⟨⟩) ?_|refine bG (by kernel_rfl) ?_|refine bD ?_ (by repeat' first|exact lr _|assumption|refine ls ?_ ?_|refine lt ?_ ?_|simp only[*];done|simp only[fb, *,not_false_eq_true,and_self];done|exact lf ‹_› (by simp only[*]))|refine aC ?_ (by repeat' first|exact lr _|assumption|refine ls ?_ ?_|refine lt ?_ ?_|simp only[*];done|simp only[fb, *,not_false_eq_true,and_self];done|exact lf ‹_› (by simp only[*]))|simp -dsimp only[↓bp,bq,br,seval,kG,hlW, *]|refine wz ?_|fail)
 all_goals skip
theorem sX{σ0 σ:AS}{hb ab mb:Nat}{p:PH}(h:Hp σ0 σ hb ab mb p)(hb2:p.words.length <=4000000):aH Try.prog G 30 [.ptr hb 0] σ fun r s=>r= .int .i64 (p.room - p.words.length) /\ s=σ:=by
 have ht:=kH (G:=G) h
 obtain⟨oX,oW,oT,X,W,T,h⟩:=h
 have hbx:=h.hbx
 have hlW:=h.rW.len (P:=Try.prog) (ty:=50)
 rw[qJ]at hlW
 simp only[List.length_map,Option.isSome_some,if_true]at hlW
 have hw:IntKind.i64.wrap (p.room - (p.words.length:Int))=p.room - p.words.length:=by have:=h.room;exact aF (by omega) (by omega)
 clear h
 refine aH.of_awp aG Try.func30 rfl (by kernel_rfl) (by kernel_rfl) (by simp[Try.ntmps30]) Try.results30 ?_
 repeat'(first|refine xs ?_ ?_ <;>intros|(refine wn ?_;intro bx hbx;try simp only[fb]at hbx)|((refine aH.mono ht ?_;rintro r s ⟨rfl,rfl⟩))|refine bE ?_|(refine aB ?_;intro bx hbx;(try simp only[fb]at hbx))|refine aD ?_|((with_reducible refine And.intro ?_ ?_);omega)|refine aA (d':=⟨⟩) ?_|refine bG (by kernel_rfl) ?_|refine bD ?_ (by repeat' first|exact lr _|assumption|refine ls ?_ ?_|refine lt ?_ ?_|simp only[*];done|simp only[fb, *,not_false_eq_true,and_self];done|exact lf ‹_› (by simp only[*]))|refine aC ?_ (by repeat' first|exact lr _|assumption|refine ls ?_ ?_|refine lt ?_ ?_|simp only[*];done|simp only[fb, *,not_false_eq_true,and_self];done|exact lf ‹_› (by simp only[*]))|simp -dsimp only[↓bp,bq,br,seval,kG,hlW,hw, *]|refine wz ?_|fail)
 all_goals skip
theorem C1m{σ:AS}{v:AV}(h:gR σ v):aH Try.prog G 27 [v] σ fun r s=>r= .int .i64 0 /\ s=σ:=by
 have ht:=fB (G:=G) h
 have ho:=h.one
 clear h
 refine aH.of_awp aG Try.func27 rfl (by kernel_rfl) (by kernel_rfl) (by simp[Try.ntmps27]) Try.results27 ?_
 repeat'(first|refine xs ?_ ?_ <;>intros|(refine wn ?_;intro bx hbx;try simp only[fb]at hbx)|((refine aH.mono ht ?_;rintro r s ⟨rfl,rfl⟩))|refine bE ?_|(refine aB ?_;intro bx hbx;(try simp only[fb]at hbx))|refine aD ?_|((with_reducible refine And.intro ?_ ?_);omega)|refine aA (d':=⟨⟩) ?_|refine bG (by kernel_rfl) ?_|refine bD ?_ (by repeat' first|exact lr _|assumption|refine ls ?_ ?_|refine lt ?_ ?_|simp only[*];done|simp only[fb, *,not_false_eq_true,and_self];done|exact lf ‹_› (by simp only[*]))|refine aC ?_ (by repeat' first|exact lr _|assumption|refine ls ?_ ?_|refine lt ?_ ?_|simp only[*];done|simp only[fb, *,not_false_eq_true,and_self];done|exact lf ‹_› (by simp only[*]))|simp -dsimp only[↓bp,bq,br,seval,kG, *]|refine wz ?_|fail)
 all_goals skip
theorem C5o{σ:AS}{v:AV}(h:gR σ v):aH Try.prog G 29 [v] σ fun r s=>r= .int .i64 0 /\ s=σ:=by
 have ht:=fB (G:=G) h
 have ho:=h.one
 clear h
 refine aH.of_awp aG Try.func29 rfl (by kernel_rfl) (by kernel_rfl) (by simp[Try.ntmps29]) Try.results29 ?_
 repeat'(first|refine xs ?_ ?_ <;>intros|(refine wn ?_;intro bx hbx;try simp only[fb]at hbx)|((refine aH.mono ht ?_;rintro r s ⟨rfl,rfl⟩))|refine bE ?_|(refine aB ?_;intro bx hbx;(try simp only[fb]at hbx))|refine aD ?_|((with_reducible refine And.intro ?_ ?_);omega)|refine aA (d':=⟨⟩) ?_|refine bG (by kernel_rfl) ?_|refine bD ?_ (by repeat' first|exact lr _|assumption|refine ls ?_ ?_|refine lt ?_ ?_|simp only[*];done|simp only[fb, *,not_false_eq_true,and_self];done|exact lf ‹_› (by simp only[*]))|refine aC ?_ (by repeat' first|exact lr _|assumption|refine ls ?_ ?_|refine lt ?_ ?_|simp only[*];done|simp only[fb, *,not_false_eq_true,and_self];done|exact lf ‹_› (by simp only[*]))|simp -dsimp only[↓bp,bq,br,seval,kG, *]|refine wz ?_|fail)
 all_goals skip
theorem C0o{σ:AS}{v:AV}(h:gR σ v):aH Try.prog G 30 [v] σ fun r s=>r= .int .i64 0 /\ s=σ:=by
 have ht:=fB (G:=G) h
 have ho:=h.one
 clear h
 refine aH.of_awp aG Try.func30 rfl (by kernel_rfl) (by kernel_rfl) (by simp[Try.ntmps30]) Try.results30 ?_
 repeat'(first|refine xs ?_ ?_ <;>intros|(refine wn ?_;intro bx hbx;try simp only[fb]at hbx)|((refine aH.mono ht ?_;rintro r s ⟨rfl,rfl⟩))|refine bE ?_|(refine aB ?_;intro bx hbx;(try simp only[fb]at hbx))|refine aD ?_|((with_reducible refine And.intro ?_ ?_);omega)|refine aA (d':=⟨⟩) ?_|refine bG (by kernel_rfl) ?_|refine bD ?_ (by repeat' first|exact lr _|assumption|refine ls ?_ ?_|refine lt ?_ ?_|simp only[*];done|simp only[fb, *,not_false_eq_true,and_self];done|exact lf ‹_› (by simp only[*]))|refine aC ?_ (by repeat' first|exact lr _|assumption|refine ls ?_ ?_|refine lt ?_ ?_|simp only[*];done|simp only[fb, *,not_false_eq_true,and_self];done|exact lf ‹_› (by simp only[*]))|simp -dsimp only[↓bp,bq,br,seval,kG, *]|refine wz ?_|fail)
 all_goals skip
theorem gR.set{σ:AS}{v:AV}(h:gR σ v){bx:Nat}(hx:σ.fresh bx)(cs:List AV):gR (σ.setBox bx cs) v:=by
 rcases h with rfl|⟨hb,rfl,W,T,r,o,hbx⟩
 ·exact .inl rfl
 ·exact .inr ⟨hb,rfl,W,T,r,o,(if_neg (fun e=> (of_eq_false (bA hbx bx hx)) e)).trans hbx⟩
theorem C5t{σ:AS}{v:AV}(h:gR σ v)(t:aE):aH Try.prog G 13 [v,t.enc] σ fun r s=>r= .tup [.int .u64 0, .bool false] /\ s=σ:=by
 have ho:=h.one
 have hfe:flat t.enc=[.int .u8 t.knd, .bool t.neg,cO t.limbs, .str t.text, .int .i64 t.num,bR t.items,bR t.tail]:=t.flat_enc
 have ht:=fun bx (hx:σ.fresh bx) cs=>fB (G:=G) (h.set hx cs)
 clear h
 refine aH.of_awp aG Try.func13 rfl (by kernel_rfl) (by kernel_rfl) (by simp[Try.ntmps13]) Try.results13 ?_
 repeat'(first|refine xs ?_ ?_ <;>intros|(refine wn ?_;intro bx hbx;try simp only[fb]at hbx)|((refine aH.mono (ht _ (by assumption) _) ?_;rintro r s ⟨rfl,rfl⟩))|refine bE ?_|(refine aB ?_;intro bx hbx;(try simp only[fb]at hbx))|refine aD ?_|((with_reducible refine And.intro ?_ ?_);omega)|refine aA (d':=⟨⟩) ?_|refine bG (by kernel_rfl) ?_|refine bD ?_ (by repeat' first|exact lr _|assumption|refine ls ?_ ?_|refine lt ?_ ?_|simp only[*];done|simp only[fb, *,not_false_eq_true,and_self];done|exact lf ‹_› (by simp only[*]))|refine aC ?_ (by repeat' first|exact lr _|assumption|refine ls ?_ ?_|refine lt ?_ ?_|simp only[*];done|simp only[fb, *,not_false_eq_true,and_self];done|exact lf ‹_› (by simp only[*]))|simp -dsimp only[↓bp,bq,br,seval,kG, *]|refine wz ?_|fail)
 exact⟨_,σ,rfl,(AS.le.refl σ).setBox hbx.1 _,rfl,rfl⟩
theorem C3h{σ:AS}{v:AV}(h:gR σ v)(w:Int):aH Try.prog G 15 [v, .int .u64 w] σ fun r s=>r= .tup [.agg [.int .u8 0, .bool false, .nil, .str [], .int .i64 0, .nil, .nil], .int .i64 1] /\ s=σ:=by
 have ho:=h.one
 have ht:=fun bx (hx:σ.fresh bx) cs=>fB (G:=G) (h.set hx cs)
 clear h
 refine aH.of_awp aG Try.func15 rfl (by kernel_rfl) (by kernel_rfl) (by simp[Try.ntmps15]) Try.results15 ?_
 repeat'(first|refine xs ?_ ?_ <;>intros|(refine wn ?_;intro bx hbx;try simp only[fb]at hbx)|((refine aH.mono (ht _ (by assumption) _) ?_;rintro r s ⟨rfl,rfl⟩))|refine bE ?_|(refine aB ?_;intro bx hbx;(try simp only[fb]at hbx))|refine aD ?_|((with_reducible refine And.intro ?_ ?_);omega)|refine aA (d':=⟨⟩) ?_|refine bG (by kernel_rfl) ?_|refine bD ?_ (by repeat' first|exact lr _|assumption|refine ls ?_ ?_|refine lt ?_ ?_|simp only[*];done|simp only[fb, *,not_false_eq_true,and_self];done|exact lf ‹_› (by simp only[*]))|refine aC ?_ (by repeat' first|exact lr _|assumption|refine ls ?_ ?_|refine lt ?_ ?_|simp only[*];done|simp only[fb, *,not_false_eq_true,and_self];done|exact lf ‹_› (by simp only[*]))|simp -dsimp only[↓bp,bq,br,seval,kG, *]|refine wz ?_|fail)
 exact⟨_,σ,rfl,(AS.le.refl σ).setBox hbx.1 _,rfl,rfl⟩
theorem A3m{σ:AS}{v:AV}(h:gR σ v)(w:Int)(row:AV)(hr:one row=true)(hf:flat row=[row]):aH Try.prog G 50 [v, .int .i64 w,row] σ fun r s=>r= .bool false /\ s=σ:=by
 have ho:=h.one
 have ht:=fun bx (hx:σ.fresh bx) cs=>fB (G:=G) (h.set hx cs)
 have hs:=fB (G:=G) h
 have hv1:=h.isv
 have hv2:=h.flat
 clear h
 refine aH.of_awp aG Try.func50 rfl (by kernel_rfl) (by kernel_rfl) (by simp[Try.ntmps50]) Try.results50 ?_
 repeat'(first|refine xs ?_ ?_ <;>intros|(refine wn ?_;intro bx hbx;try simp only[fb]at hbx)|((refine aH.mono (ht _ (by assumption) _) ?_;rintro r s ⟨rfl,rfl⟩))|refine bE ?_|(refine aB ?_;intro bx hbx;(try simp only[fb]at hbx))|refine aD ?_|((with_reducible refine And.intro ?_ ?_);omega)|refine aA (d':=⟨⟩) ?_|refine bG (by kernel_rfl) ?_|refine bD ?_ (by repeat' first|exact lr _|assumption|refine ls ?_ ?_|refine lt ?_ ?_|simp only[*];done|simp only[fb, *,not_false_eq_true,and_self];done|exact lf ‹_› (by simp only[*]))|refine aC ?_ (by repeat' first|exact lr _|assumption|refine ls ?_ ?_|refine lt ?_ ?_|simp only[*];done|simp only[fb, *,not_false_eq_true,and_self];done|exact lf ‹_› (by simp only[*]))|simp -dsimp only[↓bp,bq,br,seval,kG, *]|refine wz ?_|fail)
 all_goals skip
theorem B4j{σ:AS}{v:AV}(h:gR σ v)(w:Int):aH Try.prog G 18 [v, .int .u64 w] σ fun r s=>r= .tup [.int .i64 0, .int .i64 0, .nil, .bool false] /\ s=σ:=by
 have ho:=h.one
 have ht:=fun bx (hx:σ.fresh bx) cs=>fB (G:=G) (h.set hx cs)
 have hs:=fB (G:=G) h
 clear h
 refine aH.of_awp aG Try.func18 rfl (by kernel_rfl) (by kernel_rfl) (by simp[Try.ntmps18]) Try.results18 ?_
 repeat'(first|refine xs ?_ ?_ <;>intros|(refine wn ?_;intro bx hbx;try simp only[fb]at hbx)|((refine aH.mono hs ?_;rintro r s ⟨rfl,rfl⟩))|refine bE ?_|(refine aB ?_;intro bx hbx;(try simp only[fb]at hbx))|refine aD ?_|((with_reducible refine And.intro ?_ ?_);omega)|refine aA (d':=⟨⟩) ?_|refine bG (by kernel_rfl) ?_|refine bD ?_ (by repeat' first|exact lr _|assumption|refine ls ?_ ?_|refine lt ?_ ?_|simp only[*];done|simp only[fb, *,not_false_eq_true,and_self];done|exact lf ‹_› (by simp only[*]))|refine aC ?_ (by repeat' first|exact lr _|assumption|refine ls ?_ ?_|refine lt ?_ ?_|simp only[*];done|simp only[fb, *,not_false_eq_true,and_self];done|exact lf ‹_› (by simp only[*]))|simp -dsimp only[↓bp,bq,br,seval,kG, *]|refine wz ?_|fail)
 exact⟨_,s,rfl,AS.le.refl _,rfl,rfl⟩
theorem B7g{σ:AS}{v:AV}(h:gR σ v):aH Try.prog G 31 [v] σ fun r s=>r= .nilptr /\ s=σ:=by
 have ho:=h.one
 have hs:=fB (G:=G) h
 clear h
 refine aH.of_awp aG Try.func31 rfl (by kernel_rfl) (by kernel_rfl) (by simp[Try.ntmps31]) Try.results31 ?_
 repeat'(first|refine xs ?_ ?_ <;>intros|(refine wn ?_;intro bx hbx;try simp only[fb]at hbx)|((refine aH.mono hs ?_;rintro r s ⟨rfl,rfl⟩))|refine bE ?_|(refine aB ?_;intro bx hbx;(try simp only[fb]at hbx))|refine aD ?_|((with_reducible refine And.intro ?_ ?_);omega)|refine aA (d':=⟨⟩) ?_|refine bG (by kernel_rfl) ?_|refine bD ?_ (by repeat' first|exact lr _|assumption|refine ls ?_ ?_|refine lt ?_ ?_|simp only[*];done|simp only[fb, *,not_false_eq_true,and_self];done|exact lf ‹_› (by simp only[*]))|refine aC ?_ (by repeat' first|exact lr _|assumption|refine ls ?_ ?_|refine lt ?_ ?_|simp only[*];done|simp only[fb, *,not_false_eq_true,and_self];done|exact lf ‹_› (by simp only[*]))|simp -dsimp only[↓bp,bq,br,seval,kG, *]|refine wz ?_|fail)
 all_goals skip
end
set_option maxRecDepth 20000
section
def qO:=And.intro (And.intro (And.intro (And.intro (And.intro @jN @rA) (And.intro @kI (And.intro @gT @eC))) (And.intro (And.intro @kJ @jO) (And.intro @gX (And.intro @gC @gY)))) (And.intro (And.intro (And.intro @fP @jF) (And.intro @jC (And.intro @jE @jD))) (And.intro (And.intro @gF @eY) (And.intro @eZ (And.intro @eQ @eJ))))) (And.intro (And.intro (And.intro (And.intro @eW @jM) (And.intro @cQ (And.intro @cP @cD))) (And.intro (And.intro @aE.flat_enc @aE.isv_enc) (And.intro @aE.fold_enc (And.intro @aW @aO)))) (And.intro (And.intro (And.intro @aP @aM) (And.intro @aX (And.intro @bP @aQ))) (And.intro (And.intro @bJ @cZ) (And.intro @dL (And.intro @cY @dA)))))
variable {G:Nat ->AV}
theorem B5r{σ:AS}{v:AV}(h:gR σ v):aH Try.prog G 21 [v, .nil] σ fun r s=>r= .tup [.int .u64 0, .bool false] /\ s=σ:=by
 have ho:=h.one
 have hs:=A3m (G:=G) h 1 .nil rfl rfl
 clear h
 refine aH.of_awp aG Try.func21 rfl (by kernel_rfl) (by kernel_rfl) (by simp[Try.ntmps21]) Try.results21 ?_
 repeat'(first|refine xs ?_ ?_ <;>intros|(refine wn ?_;intro bx hbx;try simp only[fb]at hbx)|((refine aH.mono hs ?_;rintro r s ⟨rfl,rfl⟩))|refine bE ?_|(refine aB ?_;intro bx hbx;(try simp only[fb]at hbx))|refine aD ?_|((with_reducible refine And.intro ?_ ?_);omega)|refine aA (d':=⟨⟩) ?_|refine bG (by kernel_rfl) ?_|refine bD ?_ (by repeat' first|exact lr _|assumption|refine ls ?_ ?_|refine lt ?_ ?_|simp only[*];done|simp only[fb, *,not_false_eq_true,and_self];done|exact lf ‹_› (by simp only[*]))|refine aC ?_ (by repeat' first|exact lr _|assumption|refine ls ?_ ?_|refine lt ?_ ?_|simp only[*];done|simp only[fb, *,not_false_eq_true,and_self];done|exact lf ‹_› (by simp only[*]))|simp -dsimp only[↓bp,bq,br,seval,qO, *]|refine wz ?_|fail)
 exact⟨_,s,rfl,AS.le.refl _,rfl,rfl⟩
theorem B7f{σ:AS}{v:AV}(h:gR σ v)(a b:Int):aH Try.prog G 25 [v, .int .u64 a, .int .u64 b] σ fun r s=>r= .tup [.int .u64 0, .bool false] /\ s=σ:=by
 have ho:=h.one
 have hs:=A3m (G:=G) h 2 (.sl .full [.int .u64 a, .int .u64 b] []) rfl rfl
 clear h
 refine aH.of_awp aG Try.func25 rfl (by kernel_rfl) (by kernel_rfl) (by simp[Try.ntmps25]) Try.results25 ?_
 repeat'(first|refine xs ?_ ?_ <;>intros|(refine wn ?_;intro bx hbx;try simp only[fb]at hbx)|((refine aH.mono hs ?_;rintro r s ⟨rfl,rfl⟩))|refine bE ?_|(refine aB ?_;intro bx hbx;(try simp only[fb]at hbx))|refine aD ?_|((with_reducible refine And.intro ?_ ?_);omega)|refine aA (d':=⟨⟩) ?_|refine bG (by kernel_rfl) ?_|refine bD ?_ (by repeat' first|exact lr _|assumption|refine ls ?_ ?_|refine lt ?_ ?_|simp only[*];done|simp only[fb, *,not_false_eq_true,and_self];done|exact lf ‹_› (by simp only[*]))|refine aC ?_ (by repeat' first|exact lr _|assumption|refine ls ?_ ?_|refine lt ?_ ?_|simp only[*];done|simp only[fb, *,not_false_eq_true,and_self];done|exact lf ‹_› (by simp only[*]))|simp -dsimp only[↓bp,bq,br,seval,qO, *]|refine wz ?_|fail)
 exact⟨_,s,rfl,AS.le.refl _,rfl,rfl⟩
theorem C3f{σ:AS}{v:AV}(h:gR σ v):aH Try.prog G 24 [v, .int .i64 0, .nil] σ fun r s=>r= .tup [.int .u64 0, .bool false] /\ s=σ:=by
 have ho:=h.one
 have hs:=A3m (G:=G) h 2 .nil rfl rfl
 clear h
 refine aH.of_awp aG Try.func24 rfl (by kernel_rfl) (by kernel_rfl) (by simp[Try.ntmps24]) Try.results24 ?_
 repeat'(first|refine xs ?_ ?_ <;>intros|(refine wn ?_;intro bx hbx;try simp only[fb]at hbx)|((refine aH.mono hs ?_;rintro r s ⟨rfl,rfl⟩))|refine bE ?_|(refine aB ?_;intro bx hbx;(try simp only[fb]at hbx))|refine aD ?_|((with_reducible refine And.intro ?_ ?_);omega)|refine aA (d':=⟨⟩) ?_|refine bG (by kernel_rfl) ?_|refine bD ?_ (by repeat' first|exact lr _|assumption|refine ls ?_ ?_|refine lt ?_ ?_|simp only[*];done|simp only[fb, *,not_false_eq_true,and_self];done|exact lf ‹_› (by simp only[*]))|refine aC ?_ (by repeat' first|exact lr _|assumption|refine ls ?_ ?_|refine lt ?_ ?_|simp only[*];done|simp only[fb, *,not_false_eq_true,and_self];done|exact lf ‹_› (by simp only[*]))|simp -dsimp only[↓bp,bq,br,seval,qO, *]|refine wz ?_|fail)
 exact⟨_,s,rfl,AS.le.refl _,rfl,rfl⟩
def jP:List UInt8:=[116,114,117,101]
theorem B9p(n:Int)(σ:AS):aH Try.prog G 11 [.nilptr, .int .i64 n] σ fun r s=>r= .nilptr /\ s=σ:=by
 refine aH.of_awp aG Try.func11 rfl (by kernel_rfl) (by kernel_rfl) (by simp[Try.ntmps11]) Try.results11 ?_
 repeat'(first|refine xs ?_ ?_ <;>intros|(refine wn ?_;intro bx hbx;try simp only[fb]at hbx)|refine bE ?_|(refine aB ?_;intro bx hbx;(try simp only[fb]at hbx))|refine aD ?_|((with_reducible refine And.intro ?_ ?_);omega)|refine aA (d':=⟨⟩) ?_|refine bG (by kernel_rfl) ?_|refine bD ?_ (by repeat' first|exact lr _|assumption|refine ls ?_ ?_|refine lt ?_ ?_|simp only[*];done|simp only[fb, *,not_false_eq_true,and_self];done|exact lf ‹_› (by simp only[*]))|refine aC ?_ (by repeat' first|exact lr _|assumption|refine ls ?_ ?_|refine lt ?_ ?_|simp only[*];done|simp only[fb, *,not_false_eq_true,and_self];done|exact lf ‹_› (by simp only[*]))|simp -dsimp only[↓bp,bq,br,seval,qO, *]|refine wz ?_|fail)
 all_goals skip
theorem A0a{σ:AS}{ab:Nat}{X:AV}(h:σ.box ab=some [.raw (.map none),X])(s:List UInt8):aH Try.prog G 35 [.ptr ab 0, .str s] σ fun r s'=>r= .int .i64 (-1) /\ s'=σ:=by
 have q1:nU Try.prog .eql 70 (.raw (.map none))=some (.bool true):=mG fP.2.1
 refine aH.of_awp aG Try.func35 rfl (by kernel_rfl) (by kernel_rfl) (by simp[Try.ntmps35]) Try.results35 ?_
 repeat'(first|refine xs ?_ ?_ <;>intros|(refine wn ?_;intro bx hbx;try simp only[fb]at hbx)|refine bE ?_|(refine aB ?_;intro bx hbx;(try simp only[fb]at hbx))|refine aD ?_|((with_reducible refine And.intro ?_ ?_);omega)|refine aA (d':=⟨⟩) ?_|refine bG (by kernel_rfl) ?_|refine bD ?_ (by repeat' first|exact lr _|assumption|refine ls ?_ ?_|refine lt ?_ ?_|simp only[*];done|simp only[fb, *,not_false_eq_true,and_self];done|exact lf ‹_› (by simp only[*]))|refine aC ?_ (by repeat' first|exact lr _|assumption|refine ls ?_ ?_|refine lt ?_ ?_|simp only[*];done|simp only[fb, *,not_false_eq_true,and_self];done|exact lf ‹_› (by simp only[*]))|simp -dsimp only[↓bp,bq,br,seval,qO,q1, *]|refine wz ?_|fail)
 all_goals skip
theorem C3q{σ0 s:AS}{ab mb bx:Nat}{o':Option Nat}{X':AV}{l:List (List UInt8)}(hB:AtS σ0 s ab mb o' X' l)(hx:s.fresh bx)(n:Int)(h0:0 <=n)(h1:n <=1048576):Hp σ0 (s.setBox bx [.ptr ab 0, .nil, .nil, .int .i64 n, .int .i64 0]) bx ab mb ⟨[],[],l,n⟩:=by
 have hne:bx ≠ ab:=fun e=>by have:=hB.box;rw[<- e,hx.1]at this;cases this
 exact⟨o',none,none,X', .nil, .nil,hB.le.setBox (hB.le.fresh hx).1 _,AS.set_get,(if_neg (Ne.symm hne)).trans hB.box,(hB.le.fresh hx).1,hB.b0,hne,hB.ty,hB.m0,hB.row, .nil, .nil,(fun _ _ e=>nomatch e),(fun _ _ e=>nomatch e),(fun _ e=>nomatch e),rfl,⟨by show -1048576 <=n;omega,h1⟩⟩
theorem A4v{σ0 σ:AS}{ab mb:Nat}{o:Option Nat}{X:AV}{l:List (List UInt8)}(h:AtS σ0 σ ab mb o X l)(hl:l.length <=1048576)(n:Int)(h0:0 <=n)(h1:n <=1048576):aH Try.prog G 11 [.ptr ab 0, .int .i64 n] σ fun r s=>∃ hb,r= .ptr hb 0 /\ Hp σ0 s hb ab mb ⟨[],[],oC jP l,n⟩:=by
 have hn:=nL (G:=G) h (s:=jP) (by decide) hl
 have hab:=h.box
 have c1:((qR jP l:Int) < 0)=False:=eq_false (by omega)
 have c2:(n < 0)=False:=eq_false (by omega)
 have c3:(1048576 < n)=False:=eq_false (by omega)
 clear h
 unfold jP at hn c1
 refine aH.of_awp aG Try.func11 rfl (by kernel_rfl) (by kernel_rfl) (by simp[Try.ntmps11]) Try.results11 ?_
 repeat'(first|refine xs ?_ ?_ <;>intros|(refine wn ?_;intro bx hbx;try simp only[fb]at hbx)|((refine aH.mono hn ?_;rintro r s ⟨rfl,o',X',hB⟩))|refine bE ?_|(refine aB ?_;intro bx hbx;(try simp only[fb]at hbx))|refine aD ?_|((with_reducible refine And.intro ?_ ?_);omega)|refine aA (d':=⟨⟩) ?_|refine bG (by kernel_rfl) ?_|refine bD ?_ (by repeat' first|exact lr _|assumption|refine ls ?_ ?_|refine lt ?_ ?_|simp only[*];done|simp only[fb, *,not_false_eq_true,and_self];done|exact lf ‹_› (by simp only[*]))|refine aC ?_ (by repeat' first|exact lr _|assumption|refine ls ?_ ?_|refine lt ?_ ?_|simp only[*];done|simp only[fb, *,not_false_eq_true,and_self];done|exact lf ‹_› (by simp only[*]))|simp -dsimp only[↓bp,bq,br,seval,qO, *]|refine wz ?_|fail)
 exact⟨_,_,rfl,AS.le.refl _,_,rfl,C3q hB hbx n h0 h1⟩
theorem A4u{σ0 σ:AS}{ab mb:Nat}{o:Option Nat}{X:AV}{l:List (List UInt8)}(h:AtS σ0 σ ab mb o X l)(hl:l.length <=1048576)(n:Int)(h1:n < 0 \/ 1048576 < n):aH Try.prog G 11 [.ptr ab 0, .int .i64 n] σ fun r s=>r= .nilptr /\ σ0.le s:=by
 have hn:=nL (G:=G) h (s:=jP) (by decide) hl
 have hab:=h.box
 have c1:((qR jP l:Int) < 0)=False:=eq_false (by omega)
 clear h
 unfold jP at hn c1
 by_cases c2:n < 0
 ·have c2':(n < 0)=True:=eq_true c2
  clear h1 c2
  refine aH.of_awp aG Try.func11 rfl (by kernel_rfl) (by kernel_rfl) (by simp[Try.ntmps11]) Try.results11 ?_
  repeat'(first|refine xs ?_ ?_ <;>intros|(refine wn ?_;intro bx hbx;try simp only[fb]at hbx)|((refine aH.mono hn ?_;rintro r s ⟨rfl,o',X',hB⟩))|refine bE ?_|(refine aB ?_;intro bx hbx;(try simp only[fb]at hbx))|refine aD ?_|((with_reducible refine And.intro ?_ ?_);omega)|refine aA (d':=⟨⟩) ?_|refine bG (by kernel_rfl) ?_|refine bD ?_ (by repeat' first|exact lr _|assumption|refine ls ?_ ?_|refine lt ?_ ?_|simp only[*];done|simp only[fb, *,not_false_eq_true,and_self];done|exact lf ‹_› (by simp only[*]))|refine aC ?_ (by repeat' first|exact lr _|assumption|refine ls ?_ ?_|refine lt ?_ ?_|simp only[*];done|simp only[fb, *,not_false_eq_true,and_self];done|exact lf ‹_› (by simp only[*]))|simp -dsimp only[↓bp,bq,br,seval,qO, *]|refine wz ?_|fail)
  exact⟨_,s,rfl,AS.le.refl _,rfl,hB.le⟩
 ·have c2':(n < 0)=False:=eq_false c2
  have c3:(1048576 < n)=True:=eq_true (by omega)
  clear h1 c2
  refine aH.of_awp aG Try.func11 rfl (by kernel_rfl) (by kernel_rfl) (by simp[Try.ntmps11]) Try.results11 ?_
  repeat'(first|refine xs ?_ ?_ <;>intros|(refine wn ?_;intro bx hbx;try simp only[fb]at hbx)|((refine aH.mono hn ?_;rintro r s ⟨rfl,o',X',hB⟩))|refine bE ?_|(refine aB ?_;intro bx hbx;(try simp only[fb]at hbx))|refine aD ?_|((with_reducible refine And.intro ?_ ?_);omega)|refine aA (d':=⟨⟩) ?_|refine bG (by kernel_rfl) ?_|refine bD ?_ (by repeat' first|exact lr _|assumption|refine ls ?_ ?_|refine lt ?_ ?_|simp only[*];done|simp only[fb, *,not_false_eq_true,and_self];done|exact lf ‹_› (by simp only[*]))|refine aC ?_ (by repeat' first|exact lr _|assumption|refine ls ?_ ?_|refine lt ?_ ?_|simp only[*];done|simp only[fb, *,not_false_eq_true,and_self];done|exact lf ‹_› (by simp only[*]))|simp -dsimp only[↓bp,bq,br,seval,qO, *]|refine wz ?_|fail)
  exact⟨_,s,rfl,AS.le.refl _,rfl,hB.le⟩
end
set_option maxRecDepth 20000
section
def B5o:=And.intro (And.intro (And.intro (And.intro (And.intro @jN @rA) (And.intro @kI (And.intro @gT @eC))) (And.intro (And.intro @kJ @jO) (And.intro @gX (And.intro @gC @gY)))) (And.intro (And.intro (And.intro @fP @jF) (And.intro @jC (And.intro @jE @jD))) (And.intro (And.intro @gF @eY) (And.intro @eZ (And.intro @eQ @eJ))))) (And.intro (And.intro (And.intro (And.intro @eW @jM) (And.intro @cQ (And.intro @cP @cD))) (And.intro (And.intro @aE.flat_enc @aE.isv_enc) (And.intro @aE.fold_enc (And.intro @aW @aO)))) (And.intro (And.intro (And.intro @aP @aM) (And.intro @aX (And.intro @bP @aQ))) (And.intro (And.intro @bJ @cZ) (And.intro @dL (And.intro @cY @dA)))))
variable {G:Nat ->AV}
theorem B4n{σ0 σ:AS}{hb ab mb:Nat}{p:PH}(h:Hp σ0 σ hb ab mb p)(t:aE)(hc:pB G t)(hr:right t=true)(hw:eA t <=p.room - p.words.length)(hrm:Rm p t.bulk):aH Try.prog G 13 [.ptr hb 0,t.enc] σ fun r s=>r= .tup [.int .u64 (gA t p).2, .bool true] /\ Hp σ0 s hb ab mb (gA t p).1:=by
 have hfe:flat t.enc=[.int .u8 t.knd, .bool t.neg,cO t.limbs, .str t.text, .int .i64 t.num,bR t.items,bR t.tail]:=t.flat_enc
 have hbt:t.bulk <=125000:=by have:=hrm.1;omega
 have hpl:p.words.length <=4000000:=by have:=hrm.1;omega
 have hR:=iV G t (by omega)
 rw[hr]at hR
 have hW:=tJ (G:=G) t (by omega)
 have c1:(p.room - (p.words.length:Int) < eA t)=False:=eq_false (by omega)
 have hn:=fun bx (hx:σ.fresh bx) cs=>h.newBox hx cs
 obtain⟨oX,oW,oT,X,W,T,hF⟩:=id h
 have hbx:=hF.hbx
 have hfr:=bA hbx
 have hle:=hF.le
 clear hF h hw hr
 refine aH.of_awp aG Try.func13 rfl (by kernel_rfl) (by kernel_rfl) (by simp[Try.ntmps13]) Try.results13 ?_
 repeat'(first|refine xs ?_ ?_ <;>intros|(refine wn ?_;intro bx hbx;try simp only[fb]at hbx)|((have hq:=hn _ (by assumption) [.int .u8 t.knd, .bool t.neg,cO t.limbs, .str t.text, .int .i64 t.num,bR t.items,bR t.tail];refine aH.mono (kH hq) ?_;rintro r s ⟨rfl,rfl⟩))|refine wp hR ?_|refine wp hW ?_|((refine aH.mono (sX hq hpl) ?_;rintro r s ⟨rfl,rfl⟩))|((refine aH.mono (hc _ _ hb ab mb _ hq hrm) ?_;rintro r s ⟨rfl,hs⟩))|refine bE ?_|(refine aB ?_;intro bx hbx;(try simp only[fb]at hbx))|refine aD ?_|((with_reducible refine And.intro ?_ ?_);omega)|refine aA (d':=⟨⟩) ?_|refine bG (by kernel_rfl) ?_|refine bD ?_ (by repeat' first|exact lr _|assumption|refine ls ?_ ?_|refine lt ?_ ?_|simp only[*];done|simp only[fb, *,not_false_eq_true,and_self];done|exact lf ‹_› (by simp only[*]))|refine aC ?_ (by repeat' first|exact lr _|assumption|refine ls ?_ ?_|refine lt ?_ ?_|simp only[*];done|simp only[fb, *,not_false_eq_true,and_self];done|exact lf ‹_› (by simp only[*]))|simp -dsimp only[↓bp,bq,br,seval,B5o,hfr, *]|refine wz ?_|fail)
 exact⟨_,s,rfl,AS.le.refl _,rfl,hs.from (cA (hle.fresh hbx).1 _)⟩
theorem C9o:pB G fW:=by
 have hl:=qH (G:=G) oP (by decide)
 rw[A7t (t:=oP) (n:=1) (by decide) (by decide)]at hl
 have h1:pB G oP:=C0k oP rfl 1 (by decide) hl
 have h2:pB G aT:=B4o aT rfl (by decide)
 have h3:pB G qT:=B4p qT rfl (fun k hk=>by
  have:k=oP:=by simpa [qT,aE.items] using hk
  rw[this];exact h1) (fun k hk=>by simp[qT,aE.tail]at hk)
 exact A8e fW rfl fun k hk=>by
  have:k=aT \/ k=qT:=by simpa [fW,aE.items] using hk
  rcases this with rfl|rfl
  ·exact h2
  ·exact h3
theorem vK:eA fW=5:=by decide
theorem pT:right fW=true:=by decide
set_option maxHeartbeats 1000000 in
theorem A4g(t:aE)(hb:t.bulk <=100000)(hr:right t=true):aN Try.prog G 34 [t.enc] (.int .i64 (eA t)):=by
 have hfe:flat t.enc=[.int .u8 t.knd, .bool t.neg,cO t.limbs, .str t.text, .int .i64 t.num,bR t.items,bR t.tail]:=t.flat_enc
 have hR:=iV G t (by omega)
 rw[hr]at hR
 have hW:=tJ (G:=G) t (by omega)
 intro σ
 refine aH.of_awp aG Try.func34 rfl (by kernel_rfl) (by kernel_rfl) (by simp[Try.ntmps34]) Try.results34 ?_
 repeat'(first|refine xs ?_ ?_ <;>intros|(refine wn ?_;intro bx hbx;try simp only[fb]at hbx)|refine wp hR ?_|refine wp hW ?_|refine bE ?_|(refine aB ?_;intro bx hbx;(try simp only[fb]at hbx))|refine aD ?_|((with_reducible refine And.intro ?_ ?_);omega)|refine aA (d':=⟨⟩) ?_|refine bG (by kernel_rfl) ?_|refine bD ?_ (by repeat' first|exact lr _|assumption|refine ls ?_ ?_|refine lt ?_ ?_|simp only[*];done|simp only[fb, *,not_false_eq_true,and_self];done|exact lf ‹_› (by simp only[*]))|refine aC ?_ (by repeat' first|exact lr _|assumption|refine ls ?_ ?_|refine lt ?_ ?_|simp only[*];done|simp only[fb, *,not_false_eq_true,and_self];done|exact lf ‹_› (by simp only[*]))|simp -dsimp only[↓bp,bq,br,seval,B5o, *]|refine wz ?_|fail)
 all_goals skip
end
set_option maxRecDepth 20000
section
def qN:=And.intro (And.intro (And.intro (And.intro (And.intro @jN @rA) (And.intro @kI (And.intro @gT @eC))) (And.intro (And.intro @kJ @jO) (And.intro @gX (And.intro @gC @gY)))) (And.intro (And.intro (And.intro @fP @jF) (And.intro @jC (And.intro @jE @jD))) (And.intro (And.intro @gF @eY) (And.intro @eZ (And.intro @eQ @eJ))))) (And.intro (And.intro (And.intro (And.intro @eW @jM) (And.intro @cQ (And.intro @cP @cD))) (And.intro (And.intro @aE.flat_enc @aE.isv_enc) (And.intro @aE.fold_enc (And.intro @aW @aO)))) (And.intro (And.intro (And.intro @aP @aM) (And.intro @aX (And.intro @bP @aQ))) (And.intro (And.intro @bJ @cZ) (And.intro @dL (And.intro @cY @dA)))))
variable {G:Nat ->AV}
theorem lB{tag n:Int}(h:iH tag n=true):aN Try.prog G 26 [.int .u64 (dU tag n)] (.int .i64 tag):=by
 rw[B3s h]
 have:=B5l (G:=G) (xX tag n) (C2k _ _)
 rw[(A0w h).2.1]at this
 exact this
theorem nK{tag n:Int}(h:iH tag n=true):aN Try.prog G 46 [.int .u64 (dU tag n)] (.int .i64 n):=by
 rw[B3s h]
 have:=A0b (G:=G) (xX tag n) (C2k _ _)
 rw[(A0w h).2.2]at this
 exact this
theorem A2c{σ0 σ:AS}{hb ab mb:Nat}{p:PH}(h:Hp σ0 σ hb ab mb p)(i c:Nat)(hc:i+c <=p.words.length)(h1:0 < p.words.length)(h2:p.words.length <=4000000):aH Try.prog G 45 [.ptr hb 0, .int .i64 i, .int .i64 c] σ fun r s=>r= .tup [.sl .none (((p.words.take (i+c)).drop i).map eR) [], .bool true] /\ s=σ:=by
 obtain⟨oX,oW,oT,X,W,T,h⟩:=h
 have hbx:=h.hbx
 have hlW:=h.rW.len (P:=Try.prog) (ty:=50)
 rw[qJ]at hlW
 simp only[List.length_map,Option.isSome_some,if_true]at hlW
 obtain⟨b,hWb⟩:∃ b,W= .sl (.own b) (p.words.map eR) []:=by
  have:=h.rW
  generalize hxs:p.words.map eR=xs at this
  cases this with
  | nil=>
   have h0:p.words.length=0:=by
    have:=congrArg List.length hxs
    simpa using this
   omega
  |own b _ _ _ _=>exact⟨b,rfl⟩
 subst hWb
 clear h
 have c1:((i:Int) < 0)=False:=eq_false (by omega)
 have c2:((c:Int) < 0)=False:=eq_false (by omega)
 have c3:((p.words.length:Int) < (i:Int))=False:=eq_false (by omega)
 have w1:IntKind.i64.wrap ((p.words.length:Int) - (i:Int))=(p.words.length:Int) - i:=aF (by omega) (by omega)
 have c4:(((p.words.length:Int) - (i:Int)) < (c:Int))=False:=eq_false (by omega)
 have w2:IntKind.i64.wrap ((i:Int)+(c:Int))=(i:Int)+c:=aF (by omega) (by omega)
 refine aH.of_awp aG Try.func45 rfl (by kernel_rfl) (by kernel_rfl) (by simp[Try.ntmps45]) Try.results45 ?_
 repeat'(first|refine xs ?_ ?_ <;>intros|(refine wn ?_;intro bx hbx;try simp only[fb]at hbx)|(refine C6c (n:=1) (ag:=false) (by rw[qJ];exact gT.1) (by omega) (by omega) (by simp only[List.length_map];omega) (fun a ha=>by obtain⟨x,_,rfl⟩:=List.mem_map.1 ha;rfl) ?_)|refine bE ?_|(refine aB ?_;intro bx hbx;(try simp only[fb]at hbx))|refine aD ?_|((with_reducible refine And.intro ?_ ?_);omega)|refine aA (d':=⟨⟩) ?_|refine bG (by kernel_rfl) ?_|refine bD ?_ (by repeat' first|exact lr _|assumption|refine ls ?_ ?_|refine lt ?_ ?_|simp only[*];done|simp only[fb, *,not_false_eq_true,and_self];done|exact lf ‹_› (by simp only[*]))|refine aC ?_ (by repeat' first|exact lr _|assumption|refine ls ?_ ?_|refine lt ?_ ?_|simp only[*];done|simp only[fb, *,not_false_eq_true,and_self];done|exact lf ‹_› (by simp only[*]))|simp -dsimp only[↓bp,bq,br,seval,qN,hlW,w1,w2, *]|refine wz ?_|fail)
 have e1:((i:Int)+(c:Int)).toNat=i+c:=by omega
 refine⟨_,σ,rfl,AS.le.refl _,?_,rfl⟩
 show AV.tup _=_
 rw[e1,List.map_drop,List.map_take]
def C4i(tag:Int):Prop:=tag=1 \/ tag=3 \/ tag=6 \/ tag=7
theorem C4l(v:AV)(hv:one v=true){tag n:Int}(hm:iH tag n=true)(ht:C4i tag)(σ:AS):aH Try.prog G 44 [v, .int .u64 (dU tag n)] σ fun r s=>r= .bool true /\ s=σ:=by
 have hT:=lB (G:=G) hm
 rcases ht with rfl|rfl|rfl|rfl
 all_goals generalize dU _ n=w at*
 ·refine aH.of_awp aG Try.func44 rfl (by kernel_rfl) (by kernel_rfl) (by simp[Try.ntmps44]) Try.results44 ?_
  repeat'(first|refine xs ?_ ?_ <;>intros|(refine wn ?_;intro bx hbx;try simp only[fb]at hbx)|refine wp hT ?_|refine bE ?_|(refine aB ?_;intro bx hbx;(try simp only[fb]at hbx))|refine aD ?_|((with_reducible refine And.intro ?_ ?_);omega)|refine aA (d':=⟨⟩) ?_|refine bG (by kernel_rfl) ?_|refine bD ?_ (by repeat' first|exact lr _|assumption|refine ls ?_ ?_|refine lt ?_ ?_|simp only[*];done|simp only[fb, *,not_false_eq_true,and_self];done|exact lf ‹_› (by simp only[*]))|refine aC ?_ (by repeat' first|exact lr _|assumption|refine ls ?_ ?_|refine lt ?_ ?_|simp only[*];done|simp only[fb, *,not_false_eq_true,and_self];done|exact lf ‹_› (by simp only[*]))|simp -dsimp only[↓bp,bq,br,seval,qN, *]|refine wz ?_|fail)
  all_goals skip
 ·refine aH.of_awp aG Try.func44 rfl (by kernel_rfl) (by kernel_rfl) (by simp[Try.ntmps44]) Try.results44 ?_
  repeat'(first|refine xs ?_ ?_ <;>intros|(refine wn ?_;intro bx hbx;try simp only[fb]at hbx)|refine wp hT ?_|refine bE ?_|(refine aB ?_;intro bx hbx;(try simp only[fb]at hbx))|refine aD ?_|((with_reducible refine And.intro ?_ ?_);omega)|refine aA (d':=⟨⟩) ?_|refine bG (by kernel_rfl) ?_|refine bD ?_ (by repeat' first|exact lr _|assumption|refine ls ?_ ?_|refine lt ?_ ?_|simp only[*];done|simp only[fb, *,not_false_eq_true,and_self];done|exact lf ‹_› (by simp only[*]))|refine aC ?_ (by repeat' first|exact lr _|assumption|refine ls ?_ ?_|refine lt ?_ ?_|simp only[*];done|simp only[fb, *,not_false_eq_true,and_self];done|exact lf ‹_› (by simp only[*]))|simp -dsimp only[↓bp,bq,br,seval,qN, *]|refine wz ?_|fail)
  all_goals skip
 ·refine aH.of_awp aG Try.func44 rfl (by kernel_rfl) (by kernel_rfl) (by simp[Try.ntmps44]) Try.results44 ?_
  repeat'(first|refine xs ?_ ?_ <;>intros|(refine wn ?_;intro bx hbx;try simp only[fb]at hbx)|refine wp hT ?_|refine bE ?_|(refine aB ?_;intro bx hbx;(try simp only[fb]at hbx))|refine aD ?_|((with_reducible refine And.intro ?_ ?_);omega)|refine aA (d':=⟨⟩) ?_|refine bG (by kernel_rfl) ?_|refine bD ?_ (by repeat' first|exact lr _|assumption|refine ls ?_ ?_|refine lt ?_ ?_|simp only[*];done|simp only[fb, *,not_false_eq_true,and_self];done|exact lf ‹_› (by simp only[*]))|refine aC ?_ (by repeat' first|exact lr _|assumption|refine ls ?_ ?_|refine lt ?_ ?_|simp only[*];done|simp only[fb, *,not_false_eq_true,and_self];done|exact lf ‹_› (by simp only[*]))|simp -dsimp only[↓bp,bq,br,seval,qN, *]|refine wz ?_|fail)
  all_goals skip
 ·refine aH.of_awp aG Try.func44 rfl (by kernel_rfl) (by kernel_rfl) (by simp[Try.ntmps44]) Try.results44 ?_
  repeat'(first|refine xs ?_ ?_ <;>intros|(refine wn ?_;intro bx hbx;try simp only[fb]at hbx)|refine wp hT ?_|refine bE ?_|(refine aB ?_;intro bx hbx;(try simp only[fb]at hbx))|refine aD ?_|((with_reducible refine And.intro ?_ ?_);omega)|refine aA (d':=⟨⟩) ?_|refine bG (by kernel_rfl) ?_|refine bD ?_ (by repeat' first|exact lr _|assumption|refine ls ?_ ?_|refine lt ?_ ?_|simp only[*];done|simp only[fb, *,not_false_eq_true,and_self];done|exact lf ‹_› (by simp only[*]))|refine aC ?_ (by repeat' first|exact lr _|assumption|refine ls ?_ ?_|refine lt ?_ ?_|simp only[*];done|simp only[fb, *,not_false_eq_true,and_self];done|exact lf ‹_› (by simp only[*]))|simp -dsimp only[↓bp,bq,br,seval,qN, *]|refine wz ?_|fail)
  all_goals skip
theorem C2j{σ0 σ:AS}{hb ab mb:Nat}{p:PH}(h:Hp σ0 σ hb ab mb p){j:Nat}{s:List UInt8}(hj:p.atoms[j]? =some s):bB Try.prog G 68 [.ptr ab 0, .int .i64 j] σ (.tup [.str s, .bool true]):=fun σ' hl=>by
 obtain⟨oX,oW,oT,X,W,T,h⟩:=h
 have hA:AtS (iZ σ' ab mb oX) σ' ab mb oX X p.atoms:=by
  obtain⟨k,hk⟩:=h.ty
  exact⟨vD _ _ _ _,hl.box _ _ h.abx,by simp[iZ],⟨k,hl.ty _ _ hk⟩,by simp[iZ],h.rX.keep (fun b e=>by simp[iZ,e]) (fun _ _ _ h=>hl.tip _ _ h)⟩
 exact A2b hA hj
theorem B8v{σ0 σ:AS}{hb ab mb:Nat}{p:PH}(h:Hp σ0 σ hb ab mb p){j:Nat}{s:List UInt8}(hj:p.atoms[j]? =some s)(hm:iH 2 j=true):aH Try.prog G 44 [.ptr hb 0, .int .u64 (dU 2 j)] σ fun r s=>r= .bool true /\ s=σ:=by
 have hT:=lB (G:=G) hm
 have hN:=nK (G:=G) hm
 have hX:=C2j (G:=G) h hj
 obtain⟨oX,oW,oT,X,W,T,h⟩:=h
 have hbx:=h.hbx
 clear h hm hj
 generalize dU _ _=w at*
 refine aH.of_awp aG Try.func44 rfl (by kernel_rfl) (by kernel_rfl) (by simp[Try.ntmps44]) Try.results44 ?_
 repeat'(first|refine xs ?_ ?_ <;>intros|(refine wn ?_;intro bx hbx;try simp only[fb]at hbx)|refine wp hT ?_|refine wp hN ?_|(refine bB.head hX (AS.le.refl _) ?_)|refine bE ?_|(refine aB ?_;intro bx hbx;(try simp only[fb]at hbx))|refine aD ?_|((with_reducible refine And.intro ?_ ?_);omega)|refine aA (d':=⟨⟩) ?_|refine bG (by kernel_rfl) ?_|refine bD ?_ (by repeat' first|exact lr _|assumption|refine ls ?_ ?_|refine lt ?_ ?_|simp only[*];done|simp only[fb, *,not_false_eq_true,and_self];done|exact lf ‹_› (by simp only[*]))|refine aC ?_ (by repeat' first|exact lr _|assumption|refine ls ?_ ?_|refine lt ?_ ?_|simp only[*];done|simp only[fb, *,not_false_eq_true,and_self];done|exact lf ‹_› (by simp only[*]))|simp -dsimp only[↓bp,bq,br,seval,qN, *]|refine wz ?_|fail)
 all_goals skip
theorem A3d{σ0 σ:AS}{hb ab mb:Nat}{p:PH}(h:Hp σ0 σ hb ab mb p){tag:Int}{j:Nat}(ht:tag=4 \/ tag=5)(hj:p.tags[j]? =some tag)(hm:iH tag j=true):aH Try.prog G 44 [.ptr hb 0, .int .u64 (dU tag j)] σ fun r s=>r= .bool true /\ s=σ:=by
 have hT:=lB (G:=G) hm
 have hN:=nK (G:=G) hm
 obtain⟨oX,oW,oT,X,W,T,h⟩:=h
 have hbx:=h.hbx
 have hlT:=h.rT.len (P:=Try.prog) (ty:=35)
 rw[B4t]at hlT
 simp only[List.length_map,Option.isSome_some,if_true]at hlT
 have hq:cR Try.prog 35 T (.int .i64 j)=some (.rp [.int .i64 tag]):=h.rT.ix (by omega) (x:= .int .i64 tag) (by rw[Int.toNat_natCast,List.getElem?_map,hj];rfl) (ag:=false) (by rw[B4t];exact jN.1)
 have hlt:=(List.getElem?_eq_some_iff.1 hj).1
 have c1:(0 <=(j:Int))=True:=eq_true (by omega)
 have c2:((j:Int) < p.tags.length)=True:=eq_true (by omega)
 have c3:((j:Int) < 0)=False:=eq_false (by omega)
 clear h hm hj hlt
 rcases ht with rfl|rfl
 all_goals generalize dU _ _=w at*
 ·refine aH.of_awp aG Try.func44 rfl (by kernel_rfl) (by kernel_rfl) (by simp[Try.ntmps44]) Try.results44 ?_
  repeat'(first|refine xs ?_ ?_ <;>intros|(refine wn ?_;intro bx hbx;try simp only[fb]at hbx)|refine wp hT ?_|refine wp hN ?_|refine wp hT ?_|refine bE ?_|(refine aB ?_;intro bx hbx;(try simp only[fb]at hbx))|refine aD ?_|((with_reducible refine And.intro ?_ ?_);omega)|refine aA (d':=⟨⟩) ?_|refine bG (by kernel_rfl) ?_|refine bD ?_ (by repeat' first|exact lr _|assumption|refine ls ?_ ?_|refine lt ?_ ?_|simp only[*];done|simp only[fb, *,not_false_eq_true,and_self];done|exact lf ‹_› (by simp only[*]))|refine aC ?_ (by repeat' first|exact lr _|assumption|refine ls ?_ ?_|refine lt ?_ ?_|simp only[*];done|simp only[fb, *,not_false_eq_true,and_self];done|exact lf ‹_› (by simp only[*]))|simp -dsimp only[↓bp,bq,br,seval,qN,hlT,hq, *]|refine wz ?_|fail)
  all_goals skip
 ·refine aH.of_awp aG Try.func44 rfl (by kernel_rfl) (by kernel_rfl) (by simp[Try.ntmps44]) Try.results44 ?_
  repeat'(first|refine xs ?_ ?_ <;>intros|(refine wn ?_;intro bx hbx;try simp only[fb]at hbx)|refine wp hT ?_|refine wp hN ?_|refine wp hT ?_|refine bE ?_|(refine aB ?_;intro bx hbx;(try simp only[fb]at hbx))|refine aD ?_|((with_reducible refine And.intro ?_ ?_);omega)|refine aA (d':=⟨⟩) ?_|refine bG (by kernel_rfl) ?_|refine bD ?_ (by repeat' first|exact lr _|assumption|refine ls ?_ ?_|refine lt ?_ ?_|simp only[*];done|simp only[fb, *,not_false_eq_true,and_self];done|exact lf ‹_› (by simp only[*]))|refine aC ?_ (by repeat' first|exact lr _|assumption|refine ls ?_ ?_|refine lt ?_ ?_|simp only[*];done|simp only[fb, *,not_false_eq_true,and_self];done|exact lf ‹_› (by simp only[*]))|simp -dsimp only[↓bp,bq,br,seval,qN,hlT,hq, *]|refine wz ?_|fail)
  all_goals skip
end
set_option maxRecDepth 20000
section
def mF:=And.intro (And.intro (And.intro (And.intro @jN (And.intro @kI @kJ)) (And.intro @eW (And.intro @gT @eC))) (And.intro (And.intro @jO (And.intro @eJ @eY)) (And.intro @eQ (And.intro @eZ @aE.flat_enc)))) (And.intro (And.intro (And.intro @aE.isv_enc (And.intro @aE.fold_enc @aP)) (And.intro @aM (And.intro @aQ @bJ))) (And.intro (And.intro @dD (And.intro @cJ @cZ)) (And.intro @dL (And.intro @cY @dA))))
variable (G:Nat ->AV)
def eX:List UInt32 ->List UInt32
 |[]=> []
 |x::l=>if eX l=[] /\ x=0 then[]else x::eX l
theorem tD:∀ l,eX (l++[0])=eX l
 |[]=>by simp[eX]
 |x::l=>by simp only[List.cons_append,eX,tD l]
theorem tC:∀ (l:List UInt32) (x:UInt32),x ≠ 0 ->eX (l++[x])=l++[x]
 |[],x,h=>by simp[eX,h]
 |y::l,x,h=>by simp only[List.cons_append,eX,tC l x h];simp
theorem vH:∀ l,(eX l).length <=l.length
 |[]=>by simp[eX]
 | x::l=>by
  have:=vH l
  simp only[eX]
  split <;>simp <;>omega
def A3a(neg:Bool)(m:List UInt32):aE:= .mk 1 neg m [] 0 [] []
def oN(l:List UInt32)(neg:Bool):AV:=if(eX l).length <=32 then .tup [(A3a (neg && decide (0 < ((eX l).length:Int))) (eX l)).enc, .bool true]else .tup [B6f.enc, .bool false]
theorem A4p(g:Bool)(m:List UInt32):Le (.agg [.int .u8 1, .bool g,cO m, .str [], .int .i64 0, .nil, .nil]) (A3a g m).enc:=by
 rw[<- aE.fold_enc (A3a g m)]
 refine Le.agg ?_ (fun d hd=>C9m (A3a g m) d (by rw[aE.flat_enc];exact hd))
 exact .cons (Le.refl _) (.cons (Le.refl _) (.cons (Le.refl _) (.cons (Le.refl _) (.cons (Le.refl _) (.cons Le.nil (.cons Le.nil .nil))))))
theorem A7u(l:List UInt32)(neg:Bool)(hl:l.length <=1000000000):aN Try.prog G 96 [cO l, .bool neg] (oN l neg):=by
 refine aN.of_le fun σ=> ?_
 have hc:∀ m:List UInt32,m.length <=1000000000 ->aN Try.prog G 104 [cO m] (cO m):=fun m hm=>aN.of_le (A6k G m hm)
 refine aH.of_awp aG Try.func96 rfl (by kernel_rfl) (by kernel_rfl) (by simp[Try.ntmps96]) Try.results96 ?_
 repeat'(first|refine xs ?_ ?_ <;>intros|(refine wn ?_;intro bx hbx;try simp only[fb]at hbx)|refine bE ?_|(refine aB ?_;intro bx hbx;(try simp only[fb]at hbx))|refine aD ?_|((with_reducible refine And.intro ?_ ?_);omega)|refine aA (d':=⟨⟩) ?_|refine bG (by kernel_rfl) ?_|refine bD ?_ (by repeat' first|exact lr _|assumption|refine ls ?_ ?_|refine lt ?_ ?_|simp only[*];done|simp only[fb, *,not_false_eq_true,and_self];done|exact lf ‹_› (by simp only[*]))|refine aC ?_ (by repeat' first|exact lr _|assumption|refine ls ?_ ?_|refine lt ?_ ?_|simp only[*];done|simp only[fb, *,not_false_eq_true,and_self];done|exact lf ‹_› (by simp only[*]))|simp -dsimp only[↓bp,bq,br,seval,mF, *]|refine wz ?_|fail)
 refine bM (fun n e σ'=>∃ m:List UInt32,n=m.length /\ m.length <=l.length /\ eX m=eX l /\ e 0=cO m /\ σ'=σ.setBox bx [.int .u8 0, .bool false, .nil, .str [], .int .i64 0, .nil, .nil]) l.length ⟨l,rfl,Nat.le_refl _,rfl,by first|(simp -dsimp only[↓bp,bq,br,seval,mF];done)|(simp -dsimp only[↓bp,bq,br,seval,mF];try rfl),rfl⟩ ?_
 rintro n v σ' ⟨m,rfl,hml,hst,h0,rfl⟩
 simp -dsimp only[↓bp,bq,br,seval,mF]at h0
 rcases List.eq_nil_or_concat m with rfl|⟨m',x,rfl⟩
 ·have hs:eX l=[]:=by rw[<- hst];rfl
  have hcm:=hc [] (by simp)
  have hlz:(([]:List UInt32).length:Int)=0:=rfl
  have hr:oN l neg= .tup [(A3a false []).enc, .bool true]:=by unfold oN;rw[hs];simp
  rw[hr]
  generalize hnil:([]:List UInt32)=q at*
  clear hc hs hst hml hr
  repeat'(first|refine xs ?_ ?_ <;>intros|(refine wn ?_;intro bx hbx;try simp only[fb]at hbx)|refine wp hcm ?_|refine bE ?_|(refine aB ?_;intro bx hbx;(try simp only[fb]at hbx))|refine aD ?_|((with_reducible refine And.intro ?_ ?_);omega)|refine aA (d':=⟨⟩) ?_|refine bG (by kernel_rfl) ?_|refine bD ?_ (by repeat' first|exact lr _|assumption|refine ls ?_ ?_|refine lt ?_ ?_|simp only[*];done|simp only[fb, *,not_false_eq_true,and_self];done|exact lf ‹_› (by simp only[*]))|refine aC ?_ (by repeat' first|exact lr _|assumption|refine ls ?_ ?_|refine lt ?_ ?_|simp only[*];done|simp only[fb, *,not_false_eq_true,and_self];done|exact lf ‹_› (by simp only[*]))|simp -dsimp only[↓bp,bq,br,seval,mF,hlz, *]|refine wz ?_|fail)
  all_goals
   refine dX σ (by repeat' first|exact lr _|assumption|refine ls ?_ ?_|refine lt ?_ ?_|simp only[*];done|simp only[fb, *,not_false_eq_true,and_self];done|exact lf ‹_› (by simp only[*])) ?_
   exact⟨Le.tup (.cons (A4p _ _) (.cons (Le.refl _) .nil)),rfl⟩
 ·simp only[List.concat_eq_append]at*
  have hlen:((m'++[x]).length:Int)=m'.length+1:=by simp
  have hlen':(m'++[x]).length=m'.length+1:=by simp
  have hw:IntKind.i64.wrap ((m'.length:Int)+1 - 1)=m'.length:=by rw[aF (by omega) (by omega)];omega
  have hget:(m'++[x])[m'.length]? =some x:=by simp
  have htake:(m'++[x]).take m'.length=m':=by simp
  have hcm:=hc (m'++[x]) (by omega)
  have hp:(0:Int) < m'.length+1:=by omega
  have hmm:m'.length <=(m'++[x]).length:=by omega
  by_cases hx:x=0
  ·subst hx
   rw[tD]at hst
   have hz:((0:UInt32).toNat:Int)=0:=rfl
   have hml':m'.length <=l.length:=by omega
   generalize hq:m'++[0]=q at*
   clear hc hml hlen'
   repeat'(first|refine xs ?_ ?_ <;>intros|(refine wn ?_;intro bx hbx;try simp only[fb]at hbx)|refine bE ?_|(refine aB ?_;intro bx hbx;(try simp only[fb]at hbx))|refine aD ?_|((with_reducible refine And.intro ?_ ?_);omega)|refine aA (d':=⟨⟩) ?_|refine bG (by kernel_rfl) ?_|refine bD ?_ (by repeat' first|exact lr _|assumption|refine ls ?_ ?_|refine lt ?_ ?_|simp only[*];done|simp only[fb, *,not_false_eq_true,and_self];done|exact lf ‹_› (by simp only[*]))|refine aC ?_ (by repeat' first|exact lr _|assumption|refine ls ?_ ?_|refine lt ?_ ?_|simp only[*];done|simp only[fb, *,not_false_eq_true,and_self];done|exact lf ‹_› (by simp only[*]))|simp -dsimp only[↓bp,bq,br,seval,mF,hlen,hw,kV,hz,xS, *]|refine wz ?_|fail)
   all_goals exact⟨m'.length,by rw[<- hq];simp,m',rfl,hml',hst,rfl⟩
  ·have hs:eX l=m'++[x]:=by rw[<- hst,tC _ _ hx]
   have hz: ¬ (x.toNat:Int)=0:=fun e=>hx (UInt32.toNat_inj.1 (by simpa using e))
   by_cases h32:m'.length+1 <=32
   ·have hr:oN l neg= .tup [(A3a (neg && true) (m'++[x])).enc, .bool true]:=by unfold oN;rw[hs,hlen',if_pos h32];congr 5;simp
    rw[hr]
    have h32': ¬ (32:Int) < m'.length+1:=by omega
    generalize hq:m'++[x]=q at*
    clear hc hs hst hml hr h32 hlen'
    repeat'(first|refine xs ?_ ?_ <;>intros|(refine wn ?_;intro bx hbx;try simp only[fb]at hbx)|refine wp hcm ?_|refine bE ?_|(refine aB ?_;intro bx hbx;(try simp only[fb]at hbx))|refine aD ?_|((with_reducible refine And.intro ?_ ?_);omega)|refine aA (d':=⟨⟩) ?_|refine bG (by kernel_rfl) ?_|refine bD ?_ (by repeat' first|exact lr _|assumption|refine ls ?_ ?_|refine lt ?_ ?_|simp only[*];done|simp only[fb, *,not_false_eq_true,and_self];done|exact lf ‹_› (by simp only[*]))|refine aC ?_ (by repeat' first|exact lr _|assumption|refine ls ?_ ?_|refine lt ?_ ?_|simp only[*];done|simp only[fb, *,not_false_eq_true,and_self];done|exact lf ‹_› (by simp only[*]))|simp -dsimp only[↓bp,bq,br,seval,mF,hlen,hw,kV,hz,xS, *]|refine wz ?_|fail)
    all_goals
     refine dX σ (by repeat' first|exact lr _|assumption|refine ls ?_ ?_|refine lt ?_ ?_|simp only[*];done|simp only[fb, *,not_false_eq_true,and_self];done|exact lf ‹_› (by simp only[*])) ?_
     cases neg <;>first|exact⟨Le.tup (.cons (A4p _ _) (.cons (Le.refl _) .nil)),rfl⟩|(exfalso;simp_all;done)
   ·have hr:oN l neg= .tup [B6f.enc, .bool false]:=by unfold oN;rw[hs,hlen',if_neg h32]
    rw[hr]
    have h32':(32:Int) < m'.length+1:=by omega
    generalize hq:m'++[x]=q at*
    clear hc hs hst hml hr h32 hlen'
    repeat'(first|refine xs ?_ ?_ <;>intros|(refine wn ?_;intro bx hbx;try simp only[fb]at hbx)|refine wp hcm ?_|refine bE ?_|(refine aB ?_;intro bx hbx;(try simp only[fb]at hbx))|refine aD ?_|((with_reducible refine And.intro ?_ ?_);omega)|refine aA (d':=⟨⟩) ?_|refine bG (by kernel_rfl) ?_|refine bD ?_ (by repeat' first|exact lr _|assumption|refine ls ?_ ?_|refine lt ?_ ?_|simp only[*];done|simp only[fb, *,not_false_eq_true,and_self];done|exact lf ‹_› (by simp only[*]))|refine aC ?_ (by repeat' first|exact lr _|assumption|refine ls ?_ ?_|refine lt ?_ ?_|simp only[*];done|simp only[fb, *,not_false_eq_true,and_self];done|exact lf ‹_› (by simp only[*]))|simp -dsimp only[↓bp,bq,br,seval,mF,hlen,hw,kV,hz,xS, *]|refine wz ?_|fail)
    all_goals
     refine dX σ (by repeat' first|exact lr _|assumption|refine ls ?_ ?_|refine lt ?_ ?_|simp only[*];done|simp only[fb, *,not_false_eq_true,and_self];done|exact lf ‹_› (by simp only[*])) ?_
     exact⟨Le.tup (.cons (A4n 0 false [] 0) (.cons (Le.refl _) .nil)),rfl⟩
end
set_option maxRecDepth 20000
section
def B5n:=And.intro (And.intro (And.intro (And.intro (And.intro @jN @rA) (And.intro @kI (And.intro @gT @eC))) (And.intro (And.intro @kJ @jO) (And.intro @gX (And.intro @gC @gY)))) (And.intro (And.intro (And.intro @fP @jF) (And.intro @jC (And.intro @jE @jD))) (And.intro (And.intro @gF @eY) (And.intro @eZ (And.intro @eQ @eJ))))) (And.intro (And.intro (And.intro (And.intro @eW @jM) (And.intro @cQ (And.intro @cP @cD))) (And.intro (And.intro @aE.flat_enc @aE.isv_enc) (And.intro @aE.fold_enc (And.intro @aW @aO)))) (And.intro (And.intro (And.intro @aP @aM) (And.intro @aX (And.intro @bP @aQ))) (And.intro (And.intro @bJ @cZ) (And.intro @dL (And.intro @cY @dA)))))
variable {G:Nat ->AV}
theorem C1l(x:Int):IntKind.u32.wrap x=x % 4294967296:=by first|rfl|simp[IntKind.wrap]
theorem C6w(w:Int)(h0:0 <=w)(h1:w < 18446744073709551616):IntKind.u64.wrap ↑(BitVec.ofInt IntKind.u64.bits w &&& BitVec.ofInt IntKind.u64.bits 31).toNat=w % 32:=by
 obtain⟨n,rfl⟩:∃ n:Nat,w=n:=⟨w.toNat,by omega⟩
 have hbits:IntKind.u64.bits=64:=rfl
 have e31:(31:Int)=((31:Nat):Int):=rfl
 rw[e31,BitVec.ofInt_natCast,BitVec.ofInt_natCast,BitVec.toNat_and,BitVec.toNat_ofNat,BitVec.toNat_ofNat,hbits,Nat.mod_eq_of_lt (by omega)]
 have h3:n &&& (31 % 2 ^ 64)=n % 32:=Nat.and_two_pow_sub_one_eq_mod n 5
 rw[h3,lC];omega
set_option maxHeartbeats 1000000 in
theorem A4a(kind size:Int)(h0:1 <=kind)(h1:kind <=3)(h2:0 <=size)(h3:size <=1048576):aN Try.prog G 48 [.int .u64 (wZ kind size)] (.tup [.int .i64 kind, .int .i64 size, .bool true]):=by
 intro σ
 have hh:=uU (G:=G) kind size h0 h1 h2 h3
 have e8:(2:Int) ^ min 8 IntKind.u64.bits=256:=rfl
 have e3:(2:Int) ^ min 3 IntKind.u64.bits=8:=rfl
 have q1:(wZ kind size).fdiv (2 ^ min 8 IntKind.u64.bits)=size:=by
  rw[e8,Int.fdiv_eq_ediv_of_nonneg _ (by omega)];unfold wZ;omega
 have q2:IntKind.i64.wrap (IntKind.u64.wrap ↑(BitVec.ofInt IntKind.u64.bits ((wZ kind size).fdiv (2 ^ min 3 IntKind.u64.bits)) &&& BitVec.ofInt IntKind.u64.bits 31).toNat)=kind:=by
  have e:(wZ kind size).fdiv (2 ^ min 3 IntKind.u64.bits)=size*32+kind:=by rw[e3,Int.fdiv_eq_ediv_of_nonneg _ (by omega)];unfold wZ;omega
  rw[e,C6w _ (by omega) (by omega),show(size*32+kind) % 32=kind by omega];exact aF (by omega) (by omega)
 have q3:IntKind.i64.wrap size=size:=aF (by omega) (by omega)
 have c1:(size <=1048576)=True:=eq_true h3
 clear h0 h1 h2 h3 e8 e3
 generalize wZ kind size=w at*
 refine aH.of_awp aG Try.func48 rfl (by kernel_rfl) (by kernel_rfl) (by simp[Try.ntmps48]) Try.results48 ?_
 repeat'(first|refine xs ?_ ?_ <;>intros|(refine wn ?_;intro bx hbx;try simp only[fb]at hbx)|refine wp hh ?_|refine bE ?_|(refine aB ?_;intro bx hbx;(try simp only[fb]at hbx))|refine aD ?_|((with_reducible refine And.intro ?_ ?_);omega)|refine aA (d':=⟨⟩) ?_|refine bG (by kernel_rfl) ?_|refine bD ?_ (by repeat' first|exact lr _|assumption|refine ls ?_ ?_|refine lt ?_ ?_|simp only[*];done|simp only[fb, *,not_false_eq_true,and_self];done|exact lf ‹_› (by simp only[*]))|refine aC ?_ (by repeat' first|exact lr _|assumption|refine ls ?_ ?_|refine lt ?_ ?_|simp only[*];done|simp only[fb, *,not_false_eq_true,and_self];done|exact lf ‹_› (by simp only[*]))|simp -dsimp only[↓bp,bq,br,seval,B5n,q1,q2,q3, *]|refine wz ?_|fail)
 exact⟨_,σ,rfl,AS.le.refl _,rfl,rfl⟩
theorem C5b(n:Int)(h0: -576460752303423488 <=n)(h1:n < 0):IntKind.u32.wrap (IntKind.u64.wrap (0 - IntKind.u64.wrap n))=((UInt32.ofNat (n.natAbs % 4294967296)).toNat:Int):=by
 rw[lC,lC,C1l,UInt32.toNat_ofNat'];omega
theorem C3o(n:Int)(h0: -576460752303423488 <=n)(h1:n < 0):IntKind.u32.wrap ((IntKind.u64.wrap (0 - IntKind.u64.wrap n)).fdiv (2 ^ min 32 IntKind.u64.bits))=((UInt32.ofNat (n.natAbs / 4294967296)).toNat:Int):=by
 have e:(2:Int) ^ min 32 IntKind.u64.bits=4294967296:=rfl
 rw[lC,lC,C1l,UInt32.toNat_ofNat',e,Int.fdiv_eq_ediv_of_nonneg _ (by omega)];omega
theorem C5c(n:Int)(h0:0 <=n)(h1:n < 576460752303423488):IntKind.u32.wrap (IntKind.u64.wrap n)=((UInt32.ofNat (n.natAbs % 4294967296)).toNat:Int):=by
 rw[lC,C1l,UInt32.toNat_ofNat'];omega
theorem C3p(n:Int)(h0:0 <=n)(h1:n < 576460752303423488):IntKind.u32.wrap ((IntKind.u64.wrap n).fdiv (2 ^ min 32 IntKind.u64.bits))=((UInt32.ofNat (n.natAbs / 4294967296)).toNat:Int):=by
 have e:(2:Int) ^ min 32 IntKind.u64.bits=4294967296:=rfl
 rw[lC,C1l,UInt32.toNat_ofNat',e,Int.fdiv_eq_ediv_of_nonneg _ (by omega)];omega
def ofL(n:Int):List UInt32:=[UInt32.ofNat (n.natAbs % 4294967296),UInt32.ofNat (n.natAbs / 4294967296)]
def ofI(n:Int):aE:=A3a (decide (n < 0) && decide (0 < ((eX (ofL n)).length:Int))) (eX (ofL n))
theorem C5d(n:Int):aN Try.prog G 96 [.sl .full [.int .u32 (UInt32.ofNat (n.natAbs % 4294967296)).toNat, .int .u32 (UInt32.ofNat (n.natAbs / 4294967296)).toNat] [], .bool (decide (n < 0))] (.tup [(ofI n).enc, .bool true]):=by
 have h:aN Try.prog G 96 [cO (ofL n), .bool (decide (n < 0))] (oN (ofL n) (decide (n < 0))):=A7u (G:=G) (ofL n) (decide (n < 0)) (by simp[ofL])
 have hs:(eX (ofL n)).length <=32:=by have:=vH (ofL n);have e:(ofL n).length=2:=rfl;omega
 unfold oN at h
 rw[if_pos hs]at h
 exact h.lessArgs (.cons Le.gh (.cons (Le.refl _) .nil))
set_option maxHeartbeats 1000000 in
theorem C0d(n:Int)(h0: -576460752303423488 <=n)(h1:n < 576460752303423488):aN Try.prog G 67 [.int .i64 n] (ofI n).enc:=by
 intro σ
 have hm:=C5d (G:=G) n
 by_cases hn:n < 0
 ·have c1:(n < 0)=True:=eq_true hn
  rw[decide_eq_true hn]at hm
  have q1:=C5b n h0 hn
  have q2:=C3o n h0 hn
  clear h0 h1 hn
  generalize ofI n=t at*
  generalize((UInt32.ofNat (n.natAbs % 4294967296)).toNat:Int)=a at*
  generalize((UInt32.ofNat (n.natAbs / 4294967296)).toNat:Int)=b at*
  refine aH.of_awp aG Try.func67 rfl (by kernel_rfl) (by kernel_rfl) (by simp[Try.ntmps67]) Try.results67 ?_
  repeat'(first|refine xs ?_ ?_ <;>intros|(refine wn ?_;intro bx hbx;try simp only[fb]at hbx)|refine wp hm ?_|refine bE ?_|(refine aB ?_;intro bx hbx;(try simp only[fb]at hbx))|refine aD ?_|((with_reducible refine And.intro ?_ ?_);omega)|refine aA (d':=⟨⟩) ?_|refine bG (by kernel_rfl) ?_|refine bD ?_ (by repeat' first|exact lr _|assumption|refine ls ?_ ?_|refine lt ?_ ?_|simp only[*];done|simp only[fb, *,not_false_eq_true,and_self];done|exact lf ‹_› (by simp only[*]))|refine aC ?_ (by repeat' first|exact lr _|assumption|refine ls ?_ ?_|refine lt ?_ ?_|simp only[*];done|simp only[fb, *,not_false_eq_true,and_self];done|exact lf ‹_› (by simp only[*]))|simp -dsimp only[↓bp,bq,br,seval,B5n,q1,q2, *]|refine wz ?_|fail)
  all_goals skip
 ·have c1:(n < 0)=False:=eq_false hn
  rw[decide_eq_false hn]at hm
  have q1:=C5c n (by omega) h1
  have q2:=C3p n (by omega) h1
  clear h0 h1 hn
  generalize ofI n=t at*
  generalize((UInt32.ofNat (n.natAbs % 4294967296)).toNat:Int)=a at*
  generalize((UInt32.ofNat (n.natAbs / 4294967296)).toNat:Int)=b at*
  refine aH.of_awp aG Try.func67 rfl (by kernel_rfl) (by kernel_rfl) (by simp[Try.ntmps67]) Try.results67 ?_
  repeat'(first|refine xs ?_ ?_ <;>intros|(refine wn ?_;intro bx hbx;try simp only[fb]at hbx)|refine wp hm ?_|refine bE ?_|(refine aB ?_;intro bx hbx;(try simp only[fb]at hbx))|refine aD ?_|((with_reducible refine And.intro ?_ ?_);omega)|refine aA (d':=⟨⟩) ?_|refine bG (by kernel_rfl) ?_|refine bD ?_ (by repeat' first|exact lr _|assumption|refine ls ?_ ?_|refine lt ?_ ?_|simp only[*];done|simp only[fb, *,not_false_eq_true,and_self];done|exact lf ‹_› (by simp only[*]))|refine aC ?_ (by repeat' first|exact lr _|assumption|refine ls ?_ ?_|refine lt ?_ ?_|simp only[*];done|simp only[fb, *,not_false_eq_true,and_self];done|exact lf ‹_› (by simp only[*]))|simp -dsimp only[↓bp,bq,br,seval,B5n,q1,q2, *]|refine wz ?_|fail)
  all_goals skip
end
set_option maxRecDepth 20000
section
def C2h:=And.intro (And.intro (And.intro (And.intro (And.intro @jN @rA) (And.intro @kI (And.intro @gT @eC))) (And.intro (And.intro @kJ @jO) (And.intro @gX (And.intro @gC @gY)))) (And.intro (And.intro (And.intro @fP @jF) (And.intro @jC (And.intro @jE @jD))) (And.intro (And.intro @gF @eY) (And.intro @eZ (And.intro @eQ @eJ))))) (And.intro (And.intro (And.intro (And.intro @eW @jM) (And.intro @cQ (And.intro @cP @cD))) (And.intro (And.intro @aE.flat_enc @aE.isv_enc) (And.intro @aE.fold_enc (And.intro @aW @aO)))) (And.intro (And.intro (And.intro @aP @aM) (And.intro @aX (And.intro @bP @aQ))) (And.intro (And.intro @bJ @cZ) (And.intro @dL (And.intro @cY @dA)))))
variable {G:Nat ->AV}
theorem dQ{σ:AS}{c:Nat}{cs:List AV}(h:σ.box c=some cs):∀ b,σ.fresh b -> (b=c)=False:=fun b hb=>eq_false fun e=>of_eq_false (bA h b hb) e.symm
def rE(G:Nat ->AV)(p:PH)(t:aE)(w:Int)(k:Nat):Prop:=∀ (σ0 σ:AS) (hb ab mb lb:Nat) (left:Int),Hp σ0 σ hb ab mb p ->σ0.box lb=some [.int .i64 left] -> (k:Int) <=left ->left <=1000000 ->aH Try.prog G 42 [.ptr hb 0, .int .u64 w, .ptr lb 0] σ fun r s=>r= .tup [t.enc, .bool true] /\ s=σ.setBox lb [.int .i64 (left - k)]
theorem Hp.count{σ0 σ:AS}{hb ab mb lb:Nat}{p:PH}{cs:List AV}(h:Hp σ0 σ hb ab mb p)(hl:σ0.box lb=some cs){bx:Nat}(hx:σ.fresh bx)(xs ds:List AV):Hp ((σ0.setBox bx xs).setBox lb ds) ((σ.setBox bx xs).setBox lb ds) hb ab mb p:=by
 obtain⟨oX,oW,oT,X,W,T,hF⟩:=id h
 have hlb:=hF.le.box _ _ hl
 exact(h.newBox hx xs).setBox (c:=lb) ((if_neg (fun e=>by have h1:=hx.1;rw[<- e,hlb]at h1;cases h1)).trans hl) ds
theorem sR{σ:AS}{bx lb:Nat}{xs cs ys:List AV}(hx:σ.fresh bx)(hne: ¬ bx=lb):(σ.setBox lb cs).le (((σ.setBox bx xs).setBox lb cs).setBox bx ys):=by
 refine⟨fun b x hb=> ?_,fun _ _ h=>h,fun _ _ h=>h⟩
 have hb':(if b=lb then some cs else σ.box b)=some x:=hb
 show(if b=bx then some ys else if b=lb then some cs else if b=bx then some xs else σ.box b)=some x
 by_cases e:b=bx
 ·rw[if_neg (fun e2=>hne (e.symm.trans e2)),e,hx.1]at hb';cases hb'
 ·rw[if_neg e]
  by_cases e2:b=lb
  ·rw[if_pos e2]at hb' ⊢;exact hb'
  ·rw[if_neg e2]at hb' ⊢;rw[if_neg e];exact hb'
theorem A7d(p:PH)(n:Int)(h0: -576460752303423488 <=n)(h1:n < 576460752303423488):rE G p (ofI n) (dU 1 n) 1:=by
 intro σ0 σ hb ab mb lb left h hl hk hL
 have hm:iH 1 n=true:=by rw[xM];simp;omega
 have hT:=lB (G:=G) hm
 have hN:=nK (G:=G) hm
 have hO:=C0d (G:=G) n h0 h1
 have hI:=fun σ=>C4l (G:=G) (.ptr hb 0) rfl hm (.inl rfl) σ
 obtain⟨oX,oW,oT,X,W,T,hF⟩:=id h
 have hlb:=hF.le.box _ _ hl
 have hfl:=bA hlb
 have hfl2:=dQ hlb
 have hfh:=bA hF.hbx
 have w1:IntKind.i64.wrap (left - 1)=left - 1:=aF (by omega) (by omega)
 have c1:(left - 1 < 0)=False:=eq_false (by omega)
 have hfe:=(ofI n).flat_enc
 clear hF h hm h0 h1 hk
 generalize dU 1 n=w at*
 generalize ofI n=t at*
 refine aH.of_awp aG Try.func42 rfl (by kernel_rfl) (by kernel_rfl) (by simp[Try.ntmps42]) Try.results42 ?_
 repeat'(first|refine xs ?_ ?_ <;>intros|(refine wn ?_;intro bx hbx;try simp only[fb]at hbx)|((refine aH.mono (hI _) ?_;rintro r s ⟨rfl,rfl⟩))|refine wp hN ?_|refine wp hT ?_|refine wp hO ?_|refine bE ?_|(refine aB ?_;intro bx hbx;(try simp only[fb]at hbx))|refine aD ?_|((with_reducible refine And.intro ?_ ?_);omega)|refine aA (d':=⟨⟩) ?_|refine bG (by kernel_rfl) ?_|refine bD ?_ (by repeat' first|exact lr _|assumption|refine ls ?_ ?_|refine lt ?_ ?_|simp only[*];done|simp only[fb, *,not_false_eq_true,and_self];done|exact lf ‹_› (by simp only[*]))|refine aC ?_ (by repeat' first|exact lr _|assumption|refine ls ?_ ?_|refine lt ?_ ?_|simp only[*];done|simp only[fb, *,not_false_eq_true,and_self];done|exact lf ‹_› (by simp only[*]))|simp -dsimp only[↓bp,bq,br,seval,C2h,w1,hfl,hfl2,hfh, *]|refine wz ?_|fail)
 exact⟨_,_,rfl,sR hbx (of_eq_false (hfl2 _ hbx)),rfl,rfl⟩
theorem B3j(t:aE){l:List AV}(h:tL l [.int .u8 t.knd, .bool t.neg,cO t.limbs, .str t.text, .int .i64 t.num,bR t.items,bR t.tail]):Le (.agg l) t.enc:=by
 rw[<- t.fold_enc]
 exact Le.agg h (fun d hd=>by simp at hd;rcases hd with rfl|rfl|rfl|rfl|rfl|rfl|rfl <;>rfl)
theorem B1w(p:PH)(j:Nat)(s:List UInt8)(hj:p.atoms[j]? =some s)(hjb:j <=1000000):rE G p (.mk 2 false [] s 0 [] []) (dU 2 j) 1:=by
 intro σ0 σ hb ab mb lb left h hl hk hL
 have hm:iH 2 j=true:=by rw[mA _ (by omega) (by omega)];simp;omega
 have hT:=lB (G:=G) hm
 have hN:=nK (G:=G) hm
 have hn:=fun bx (hx:σ.fresh bx) xs ds=>h.count hl hx xs ds
 obtain⟨oX,oW,oT,X,W,T,hF⟩:=id h
 have hbh:=hF.hbx
 have hlb:=hF.le.box _ _ hl
 have hfl:=bA hlb
 have hfl2:=dQ hlb
 have hfh:=bA hF.hbx
 have hlh:(hb=lb)=False:=eq_false (fun e=>by have:=hF.h0;rw[e,hl]at this;cases this)
 have hlh2:(lb=hb)=False:=eq_false (fun e=>of_eq_false hlh e.symm)
 have w1:IntKind.i64.wrap (left - 1)=left - 1:=aF (by omega) (by omega)
 have c1:(left - 1 < 0)=False:=eq_false (by omega)
 clear hF h hk hjb
 refine aH.tell (Q:=fun r s'=>Le r (.tup [(aE.mk 2 false [] s 0 [] []).enc, .bool true]) /\ s'=σ.setBox lb [.int .i64 (left - (1:Nat))]) ?_ (fun r s' ⟨h1,h2⟩=> ⟨_,h1,rfl,h2⟩)
 generalize hw:dU 2 j=w at*
 refine aH.of_awp aG Try.func42 rfl (by kernel_rfl) (by kernel_rfl) (by simp[Try.ntmps42]) Try.results42 ?_
 repeat'(first|refine xs ?_ ?_ <;>intros|(refine wn ?_;intro bx hbx;try simp only[fb]at hbx)|((have hq:=hn _ (by assumption) [.int .u8 0, .bool false, .nil, .str [], .int .i64 0, .nil, .nil] [.int .i64 (left - 1)];rw[<- hw];refine aH.mono (B8v hq hj hm) ?_;rintro r s ⟨rfl,rfl⟩))|refine wp hN ?_|refine wp hT ?_|(refine bB.use (C2j hq hj) (AS.le.refl _) ?_)|refine bE ?_|(refine aB ?_;intro bx hbx;(try simp only[fb]at hbx))|refine aD ?_|((with_reducible refine And.intro ?_ ?_);omega)|refine aA (d':=⟨⟩) ?_|refine bG (by kernel_rfl) ?_|refine bD ?_ (by repeat' first|exact lr _|assumption|refine ls ?_ ?_|refine lt ?_ ?_|simp only[*];done|simp only[fb, *,not_false_eq_true,and_self];done|exact lf ‹_› (by simp only[*]))|refine aC ?_ (by repeat' first|exact lr _|assumption|refine ls ?_ ?_|refine lt ?_ ?_|simp only[*];done|simp only[fb, *,not_false_eq_true,and_self];done|exact lf ‹_› (by simp only[*]))|simp -dsimp only[↓bp,bq,br,seval,C2h,w1,hfl,hfl2,hfh,hlh,hlh2, *]|refine wz ?_|fail)
 refine⟨_,_,rfl,sR hbx (of_eq_false (hfl2 _ hbx)),?_,rfl⟩
 show Le (AV.tup _) _
 exact Le.tup (.cons (B3j _ (.cons (Le.refl _) (.cons (Le.refl _) (.cons Le.nil (.cons (Le.refl _) (.cons (Le.refl _) (.cons Le.nil (.cons Le.nil .nil)))))))) (.cons (Le.refl _) .nil))
end
set_option maxRecDepth 20000
section
def A0y:=And.intro (And.intro (And.intro (And.intro (And.intro @jN @rA) (And.intro @kI (And.intro @gT @eC))) (And.intro (And.intro @kJ @jO) (And.intro @gX (And.intro @gC @gY)))) (And.intro (And.intro (And.intro @fP @jF) (And.intro @jC (And.intro @jE @jD))) (And.intro (And.intro @gF @eY) (And.intro @eZ (And.intro @eQ @eJ))))) (And.intro (And.intro (And.intro (And.intro @eW @jM) (And.intro @cQ (And.intro @cP @cD))) (And.intro (And.intro @aE.flat_enc @aE.isv_enc) (And.intro @aE.fold_enc (And.intro @aW @aO)))) (And.intro (And.intro (And.intro @aP @aM) (And.intro @aX (And.intro @bP @aQ))) (And.intro (And.intro @bJ @cZ) (And.intro @dL (And.intro @cY @dA)))))
variable {G:Nat ->AV}
inductive gG(G:Nat ->AV)(p:PH):List aE ->List Int ->Nat ->Prop
 |nil:gG G p [] [] 0
 |cons {t:aE} {w:Int} {k:Nat} {ts:List aE} {ws:List Int} {n:Nat} (h:rE G p t w k) (r:gG G p ts ws n):gG G p (t::ts) (w::ws) (k+n)
theorem gG.len{p:PH}{ts:List aE}{ws:List Int}{n:Nat}(h:gG G p ts ws n):ts.length=ws.length:=by
 induction h with
 |nil=>rfl
 |cons _ _ ih=>simp[ih]
theorem gG.next{p:PH}{ts:List aE}{ws:List Int}{n j:Nat}(h:gG G p (ts.drop j) (ws.drop j) n)(hj:j < ts.length)(hw:j < ws.length):∃ t w k n2,ts[j]? =some t /\ ws[j]? =some w /\ rE G p t w k /\ n=k+n2 /\ gG G p (ts.drop (j+1)) (ws.drop (j+1)) n2:=by
 rw[List.drop_eq_getElem_cons hj,List.drop_eq_getElem_cons hw]at h
 cases h with
 |cons h r=>exact⟨_,_,_,_,List.getElem?_eq_getElem hj,List.getElem?_eq_getElem hw,h,rfl,r⟩
theorem Rw.up{t0 t t':Nat ->Option (Nat × Nat)}{o:Option Nat}{v:AV}{xs:List AV}(h:Rw t0 t o v xs)(hl:∀ b x,t b=some x ->t' b=some x):Rw t0 t' o v xs:=h.keep h.free fun b x _ hx=>hl b x hx
theorem Hp.up{σ0 σ s:AS}{hb ab mb:Nat}{p:PH}(h:Hp σ0 σ hb ab mb p)(hl:σ.le s):Hp σ0 s hb ab mb p:=by
 obtain⟨oX,oW,oT,X,W,T,h⟩:=h
 obtain⟨k,hk⟩:=h.ty
 exact⟨oX,oW,oT,X,W,T,h.le.trans hl,hl.box _ _ h.hbx,hl.box _ _ h.abx,h.h0,h.a0,h.ne,⟨k,hl.ty _ _ hk⟩,h.m0,h.rX.up hl.tip,h.rW.up hl.tip,h.rT.up hl.tip,h.d1,h.d2,h.d3,h.tl,h.room⟩
theorem kR{n:Nat}{σ0 σ:AS}{v:AV}{xs:List AV}(h:oY n σ0 σ v xs){c:Nat}(cs:List AV):oY n (σ0.setBox c cs) (σ.setBox c cs) v xs:=by
 have hl:σ0.le σ -> (σ0.setBox c cs).le (σ.setBox c cs):=fun h=> ⟨fun b x hb=>by
  have hb':(if b=c then some cs else σ0.box b)=some x:=hb
  show(if b=c then some cs else σ.box b)=some x
  split
  ·rename_i e;rw[if_pos e]at hb';exact hb'
  ·rename_i e;rw[if_neg e]at hb';exact h.box b x hb',h.tip,h.ty⟩
 cases h with
 |nil h=>exact .nil (hl h)
 |own b xs h h0 ht hx=>exact .own b xs (hl h) h0 ht hx
theorem C0f{n:Nat}{σ0 σ:AS}{v:AV}{xs:List AV}(h:oY n σ0 σ v xs):one v=true:=by cases h <;>rfl
def gB(σ:AS)(bx lb b8:Nat)(z:List AV)(L:Int)(c:List AV):AS:=((σ.setBox bx z).setBox lb [.int .i64 L]).setBox b8 c
theorem B1s{σ:AS}{bx lb b8:Nat}{z c:List AV}{L L':Int}(h: ¬ lb=b8):(gB σ bx lb b8 z L c).setBox lb [.int .i64 L']=gB σ bx lb b8 z L' c:=by
 unfold gB AS.setBox
 simp only[AS.mk.injEq,and_true]
 funext b
 by_cases e:b=lb
 ·subst e;simp[h]
 ·simp[e]
theorem C1y{σ:AS}{bx lb b8:Nat}{z c c':List AV}{L:Int} :(gB σ bx lb b8 z L c).setBox b8 c'=gB σ bx lb b8 z L c':=qZ
section
variable {σ:AS} {b6 lb b8:Nat} {z c:List AV} {L:Int}
theorem C1w{b:Nat}(h8: ¬ b=b8)(hl: ¬ b=lb)(h6: ¬ b=b6):(gB σ b6 lb b8 z L c).box b=σ.box b:=by simp[gB,AS.setBox,h8,hl,h6]
theorem A2t(h8: ¬ lb=b8):(gB σ b6 lb b8 z L c).box lb=some [.int .i64 L]:=by simp[gB,AS.setBox,h8]
theorem wV:(gB σ b6 lb b8 z L c).box b8=some c:=by simp[gB,AS.setBox]
theorem B1r(h8: ¬ b6=b8)(hl: ¬ b6=lb):(gB σ b6 lb b8 z L c).box b6=some z:=by simp[gB,AS.setBox,h8,hl]
theorem A4t(h6:σ.fresh b6)(h8:σ.fresh b8)(hl6: ¬ b6=lb)(hl8: ¬ b8=lb):(σ.setBox lb [.int .i64 L]).le (gB σ b6 lb b8 z L c):=by
 refine⟨fun b x hb=> ?_,fun _ _ h=>h,fun _ _ h=>h⟩
 have hb':(if b=lb then some [.int .i64 L]else σ.box b)=some x:=hb
 show(if b=b8 then some c else if b=lb then some [.int .i64 L]else if b=b6 then some z else σ.box b)=some x
 by_cases e8:b=b8
 ·rw[if_neg (fun e=>hl8 (e8.symm.trans e)),e8,h8.1]at hb';cases hb'
 ·rw[if_neg e8]
  by_cases el:b=lb
  ·rw[if_pos el]at hb' ⊢;exact hb'
  ·rw[if_neg el]at hb' ⊢
   rw[if_neg (fun e=>by rw[e,h6.1]at hb';cases hb')];exact hb'
end
theorem C1x{σ:AS}{b6 lb b8:Nat}{z z' c:List AV}{L:Int}(h8: ¬ b6=b8)(hl: ¬ b6=lb):(gB σ b6 lb b8 z L c).setBox b6 z'=gB σ b6 lb b8 z' L c:=by
 unfold gB AS.setBox
 simp only[AS.mk.injEq,and_true]
 funext b
 by_cases e:b=b6
 ·subst e;simp[h8,hl]
 ·simp[e]
set_option maxHeartbeats 4000000 in
theorem A7e(p:PH)(i n:Nat)(ks:List aE)(ws:List Int)(hA:gG G p ks ws n)(ht:p.tags[i]? =some 5)(hh:(p.words.take (i+1)).drop i=[wZ 1 ws.length])(hws:(p.words.take (i+1+ws.length)).drop (i+1)=ws)(hpl:p.words.length <=1000000)(hil:i+1+ws.length <=p.words.length):rE G p (.mk 6 false [] [] 0 ks []) (dU 5 i) (1+n):=by
 intro σ0 σ hb ab mb lb left h hl hk hL
 have hm:iH 5 i=true:=by rw[mA _ (by omega) (by omega)];simp;omega
 have hT:=lB (G:=G) hm
 have hN:=nK (G:=G) hm
 have hS:=A4a (G:=G) 1 ws.length (by omega) (by omega) (by omega) (by omega)
 have hn:=fun bx (hx:σ.fresh bx) xs ds=>h.count hl hx xs ds
 obtain⟨oX,oW,oT,X,W,T,hF⟩:=id h
 have hbh:=hF.hbx
 have hlb:=hF.le.box _ _ hl
 have hfl:=bA hlb
 have hfl2:=dQ hlb
 have hfh:=bA hF.hbx
 have hlh:(hb=lb)=False:=eq_false (fun e=>by have:=hF.h0;rw[e,hl]at this;cases this)
 have hlh2:(lb=hb)=False:=eq_false (fun e=>of_eq_false hlh e.symm)
 have w1:IntKind.i64.wrap (left - 1)=left - 1:=aF (by omega) (by omega)
 have w2:IntKind.i64.wrap ((i:Int)+1)=((i+1:Nat):Int):=by rw[aF (by omega) (by omega)];omega
 have c1:(left - 1 < 0)=False:=eq_false (by omega)
 have hlen:=hA.len
 clear hF
 refine aH.tell (Q:=fun r s'=>Le r (.tup [(aE.mk 6 false [] [] 0 ks []).enc, .bool true]) /\ s'=σ.setBox lb [.int .i64 (left - ((1+n:Nat):Int))]) ?_ (fun r s' ⟨h1,h2⟩=> ⟨_,h1,rfl,h2⟩)
 generalize hw:dU 5 i=w at*
 refine aH.of_awp aG Try.func42 rfl (by kernel_rfl) (by kernel_rfl) (by simp[Try.ntmps42]) Try.results42 ?_
 repeat'(first|refine xs ?_ ?_ <;>intros|(refine wn ?_;intro bx hbx;try simp only[fb]at hbx)|((have hq:=hn _ (by assumption) [.int .u8 0, .bool false, .nil, .str [], .int .i64 0, .nil, .nil] [.int .i64 (left - 1)];rw[<- hw];refine aH.mono (A3d hq (.inr rfl) ht hm) ?_;rintro r s ⟨rfl,rfl⟩))|refine wp hN ?_|refine wp hT ?_|((refine aH.mono (A2c hq i 1 (by omega) (by omega) (by omega)) ?_;rintro r s ⟨rfl,rfl⟩;rw[hh];simp only[List.map_cons,List.map_nil,eR]))|refine wp hS ?_|((refine aH.mono (A2c hq (i+1) ws.length (by omega) (by omega) (by omega)) ?_;rintro r s ⟨rfl,rfl⟩;rw[hws]))|refine bE ?_|(refine aB ?_;intro bx hbx;(try simp only[fb]at hbx))|refine aD ?_|((with_reducible refine And.intro ?_ ?_);omega)|refine aA (d':=⟨⟩) ?_|refine bG (by kernel_rfl) ?_|refine bD ?_ (by repeat' first|exact lr _|assumption|refine ls ?_ ?_|refine lt ?_ ?_|simp only[*];done|simp only[fb, *,not_false_eq_true,and_self];done|exact lf ‹_› (by simp only[*]))|refine aC ?_ (by repeat' first|exact lr _|assumption|refine ls ?_ ?_|refine lt ?_ ?_|simp only[*];done|simp only[fb, *,not_false_eq_true,and_self];done|exact lf ‹_› (by simp only[*]))|simp -dsimp only[↓bp,bq,br,seval,A0y,w1,w2,hfl,hfl2,hfh,hlh,hlh2, *]|refine wz ?_|fail)
 rename_i b6 hb6
 have hn6: ¬ bx=b6:=hbx.1.2.1
 have hn6': ¬ b6=bx:=hbx.1.2.2
 have hnl: ¬ bx=lb:=hbx.2.1
 have hnl': ¬ lb=bx:=hbx.2.2
 have h6l: ¬ b6=lb:=of_eq_false (hfl2 _ hb6)
 have h6l': ¬ lb=b6:=of_eq_false (hfl _ hb6)
 have hh6: ¬ hb=b6:=of_eq_false (hfh _ hb6)
 have hh8: ¬ hb=bx:=of_eq_false (hfh _ hbx.1.1)
 have hleG:=fun L c=>A4t (z:=[.int .u8 0, .bool false, .nil, .str [], .int .i64 0, .nil, .nil]) (L:=L) (c:=c) hb6 hbx.1.1 h6l hnl
 clear hq hS hN hT hh hws ht
 refine bM (fun m e σ'=>∃ (j:Nat) (v:AV) (nr:Nat),e 132= .int .i64 j /\ j+m=ws.length /\ gG G p (ks.drop j) (ws.drop j) nr /\ nr <=n /\ oY 7 (gB σ b6 lb bx [.int .u8 0, .bool false, .nil, .str [], .int .i64 0, .nil, .nil] (left - 1 - ((n:Int) - nr)) [.int .u8 6, .bool false, .nil, .str [], .int .i64 0,v, .nil]) σ' v ((ks.take j).map aE.enc)) ws.length ⟨0, .nil,n,by simp -dsimp only[↓bp,bq,br,seval,A0y],by omega,hA,Nat.le_refl _,by rw[show left - 1 - ((n:Int) - n)=left - 1 by omega];exact .nil (AS.le.refl _)⟩ ?_
 rintro m e σ' ⟨j,v,nr,h132,hjm,hG,hnr,hB⟩
 simp -dsimp only[↓bp,bq,br,seval,A0y]at h132
 have hwj:IntKind.i64.wrap ((j:Int)+1)=((j+1:Nat):Int):=by rw[aF (by omega) (by omega)];omega
 have eh:σ'.box hb=some [.ptr ab 0,W,T, .int .i64 p.room, .int .i64 0]:=hB.le.box _ _ ((C1w hh8 (of_eq_false hlh) hh6).trans hbh)
 have el:=hB.le.box _ _ (A2t hnl')
 have e8:=hB.le.box _ _ wV
 have e6:=hB.le.box _ _ (B1r hn6' h6l)
 have fh:=bA eh
 have fl:=bA el
 have f8:=bA e8
 have f6:=bA e6
 have fl2:=dQ el
 have f82:=dQ e8
 have f62:=dQ e6
 have iv:=hB.isv
 have ov:=C0f hB
 have jv:=hB.flat
 by_cases hj:j < ws.length
 ·have cj:((j:Int) < ws.length)=True:=eq_true (by omega)
  obtain⟨t,w',k,n2,h1,h2,hg,rfl,hr⟩:=hG.next (by omega) hj
  have hHp:Hp (σ0.setBox lb [.int .i64 (left - 1 - ((n:Int) - ((k+n2:Nat):Int)))]) σ' hb ab mb p:=(h.setBox hl _).up ((hleG _ _).trans hB.le)
  have iS:=hg _ σ' hb ab mb lb _ hHp AS.set_get (by omega) (by omega)
  clear hg hHp hA h hleG
  have eL:left - 1 - ((n:Int) - ((k+n2:Nat):Int)) - (k:Int)=left - 1 - ((n:Int) - n2):=by omega
  rw[eL]at iS
  repeat'(first|refine xs ?_ ?_ <;>intros|(refine wn ?_;intro bx hbx;try simp only[fb]at hbx)|((refine aH.mono iS ?_;rintro r s ⟨rfl,rfl⟩))|((refine A4i (ys:=[t.enc]) ((kR hB [.int .i64 (left - 1 - ((n:Int) - n2))]).newBox (dE.2 ⟨hbx.1,hbx.2.1⟩) _) tfN (iC tfE) (fun a ha=>by simp at ha;subst ha;rw[t.flat_enc];rfl) (by simp only[List.length_map,List.length_take,List.length_cons,List.length_nil];omega) (fun v3 σ3 hB4 hx4=> ?_);rw[B1s hnl']at hB4;have g8:=hB4.le.box _ _ wV;have i3:=hB4.isv;have o3:=C0f hB4;have j3:=hB4.flat))|refine bE ?_|(refine aB ?_;intro bx hbx;(try simp only[fb]at hbx))|refine aD ?_|((with_reducible refine And.intro ?_ ?_);omega)|refine aA (d':=⟨⟩) ?_|refine bG (by kernel_rfl) ?_|refine bD ?_ (by repeat' first|exact lr _|assumption|refine ls ?_ ?_|refine lt ?_ ?_|simp only[*];done|simp only[fb, *,not_false_eq_true,and_self];done|exact lf ‹_› (by simp only[*]))|refine aC ?_ (by repeat' first|exact lr _|assumption|refine ls ?_ ?_|refine lt ?_ ?_|simp only[*];done|simp only[fb, *,not_false_eq_true,and_self];done|exact lf ‹_› (by simp only[*]))|simp -dsimp only[↓bp,bq,br,seval,A0y,hwj,h1,h2,fh,fl,f8,f6,fl2,f82,f62,eR, *]|refine wz ?_|fail)
  refine⟨m - 1,by omega,j+1,v3,n2,rfl,by omega,hr,by omega,?_⟩
  rw[bV ks j t h1,List.map_append,<- C1y (c:=[.int .u8 6, .bool false, .nil, .str [], .int .i64 0,v, .nil])]
  exact kR hB4 _
 ·have cj:((j:Int) < ws.length)=False:=eq_false (by omega)
  obtain rfl:j=ws.length:=by omega
  repeat'(first|refine xs ?_ ?_ <;>intros|(refine wn ?_;intro bx hbx;try simp only[fb]at hbx)|refine bE ?_|(refine aB ?_;intro bx hbx;(try simp only[fb]at hbx))|refine aD ?_|((with_reducible refine And.intro ?_ ?_);omega)|refine aA (d':=⟨⟩) ?_|refine bG (by kernel_rfl) ?_|refine bD ?_ (by repeat' first|exact lr _|assumption|refine ls ?_ ?_|refine lt ?_ ?_|simp only[*];done|simp only[fb, *,not_false_eq_true,and_self];done|exact lf ‹_› (by simp only[*]))|refine aC ?_ (by repeat' first|exact lr _|assumption|refine ls ?_ ?_|refine lt ?_ ?_|simp only[*];done|simp only[fb, *,not_false_eq_true,and_self];done|exact lf ‹_› (by simp only[*]))|simp -dsimp only[↓bp,bq,br,seval,A0y,fh,fl,f8,f6,fl2,f82,f62, *]|refine wz ?_|fail)
  have hd:ks.drop ws.length=[]:=List.drop_eq_nil_of_le (by omega)
  have htk:ks.take ws.length=ks:=List.take_of_length_le (by omega)
  have hn0:nr=0:=by rw[hd,List.drop_length]at hG;cases hG;rfl
  subst hn0
  have hLe:=(kR (.nil hB.le:oY 7 _ _ .nil []) (c:=b6) [.int .u8 6, .bool false, .nil, .str [], .int .i64 0,v, .nil]).le
  rw[C1x hn6' h6l]at hLe
  have hLe2:=A4t (z:=[.int .u8 6, .bool false, .nil, .str [], .int .i64 0,v, .nil]) (L:=left - 1 - ((n:Int) - (0:Nat))) (c:=[.int .u8 6, .bool false, .nil, .str [], .int .i64 0,v, .nil]) hb6 hbx.1.1 h6l hnl
  have eL:left - 1 - ((n:Int) - ((0:Nat):Int))=left - ((1+n:Nat):Int):=by omega
  have hv:=hB.told
  rw[htk]at hv
  rw[eL]at hLe hLe2
  refine⟨_,_,rfl,hLe2.trans hLe,?_,rfl⟩
  show Le (AV.tup _) _
  exact Le.tup (.cons (B3j _ (.cons (Le.refl _) (.cons (Le.refl _) (.cons Le.nil (.cons (Le.refl _) (.cons (Le.refl _) (.cons hv (.cons Le.nil .nil)))))))) (.cons (Le.refl _) .nil))
end
end Go.Proofs.Ytinfbihcnonaoaa
